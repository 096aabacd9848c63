/- A field that comes in reads as a field in memory; no condition. -/
import Derived.Test.YtjddcaimjofihaaRO
import Derived.Test.YtjddcaimjofihaaK1
namespace Go.Deep

section
variable {H : Type} {enc : TypeId × Value → H} {P : Program} {w : World} {base : Nat} {spare : Nat → Bool} {held : Bool}
theorem trod_struct9 {t : TypeId} {f0 f1 f2 f3 f4 f5 f6 f7 f8 : Field} {fuel : Nat} {cs : List Value} {x : DataW H × List MemPlace} (ht : P.underlying t = some (.struct #[f0, f1, f2, f3, f4, f5, f6, f7, f8])) (h : DataW.trod enc P w base spare held fuel t cs = some x) :
    ∃ y0 y1 y2 y3 y4 y5 y6 y7 y8 n, cs.length = P.cellsOf t ∧ DataW.trod enc P w base spare held n f0.type ((cs.drop f0.offset).take (P.cellsOf f0.type)) = some y0 ∧
      DataW.trod enc P w base spare held n f1.type ((cs.drop f1.offset).take (P.cellsOf f1.type)) = some y1 ∧ DataW.trod enc P w base spare held n f2.type ((cs.drop f2.offset).take (P.cellsOf f2.type)) = some y2 ∧
      DataW.trod enc P w base spare held n f3.type ((cs.drop f3.offset).take (P.cellsOf f3.type)) = some y3 ∧ DataW.trod enc P w base spare held n f4.type ((cs.drop f4.offset).take (P.cellsOf f4.type)) = some y4 ∧
      DataW.trod enc P w base spare held n f5.type ((cs.drop f5.offset).take (P.cellsOf f5.type)) = some y5 ∧ DataW.trod enc P w base spare held n f6.type ((cs.drop f6.offset).take (P.cellsOf f6.type)) = some y6 ∧
      DataW.trod enc P w base spare held n f7.type ((cs.drop f7.offset).take (P.cellsOf f7.type)) = some y7 ∧ DataW.trod enc P w base spare held n f8.type ((cs.drop f8.offset).take (P.cellsOf f8.type)) = some y8 := by
  obtain ⟨xs, n, _, rfl, hl, hlen, hf⟩ := DataW.trod_struct ht h
  match xs, hlen with
  | [y0, y1, y2, y3, y4, y5, y6, y7, y8], _ => exact ⟨y0, y1, y2, y3, y4, y5, y6, y7, y8, n, hl, by simpa using hf 0 f0 rfl, by simpa using hf 1 f1 rfl, by simpa using hf 2 f2 rfl, by simpa using hf 3 f3 rfl, by simpa using hf 4 f4 rfl, by simpa using hf 5 f5 rfl, by simpa using hf 6 f6 rfl, by simpa using hf 7 f7 rfl, by simpa using hf 8 f8 rfl⟩
end
end Go.Deep
namespace Go.Proofs.Ytjddcaimjofihaa
open Go.ChangeShapes Go.WideShapes Go.ChangeAt Go.RowKit Go.Deep
set_option maxRecDepth 100000
theorem array9 {α : Type} {cs : Array α} (h : cs.size = 9) : ∃ c0 c1 c2 c3 c4 c5 c6 c7 c8, cs = #[c0, c1, c2, c3, c4, c5, c6, c7, c8] := by
  obtain ⟨l⟩ := cs
  match l, h with
  | [c0, c1, c2, c3, c4, c5, c6, c7, c8], _ => exact ⟨c0, c1, c2, c3, c4, c5, c6, c7, c8, rfl⟩

section
variable {H : Type} {enc : TypeId × Value → H} {W : World}
theorem int_cell {n : Nat} {c : Value} {x : DataW H × List MemPlace} (h : DataW.trod enc Try.prog W 0 (fun _ => true) true n 3 [c] = some x) : ∃ p, c = .int .i64 p := by
  obtain ⟨p, hp, -⟩ := DataW.trod_int (k := .i64) (by kernel_rfl) h
  have e0 : [c] = [Value.int .i64 p] := hp
  simp only [List.cons.injEq, and_true] at e0
  exact ⟨p, e0⟩
theorem rangeS_of_trod {n : Nat} {cs : List Value} {x : DataW H × List MemPlace} (h : DataW.trod enc Try.prog W 0 (fun _ => true) true n 146 cs = some x) (hl : cs.length = 2) : ∃ y : Rg, cs = [Value.int .i64 y.lo, Value.int .i64 y.hi] := by
  obtain ⟨y0, y1, m, -, -, h0, h1⟩ := trod_struct2 Try.underlying146 h
  match cs, hl with
  | [a, b], _ =>
    obtain ⟨p, hp⟩ := int_cell (c := a) h0
    obtain ⟨q, hq⟩ := int_cell (c := b) h1
    exact ⟨⟨p, q⟩, by rw [hp, hq]⟩
theorem look_of_trod {n : Nat} {cs : List Value} {x : DataW H × List MemPlace} (h : DataW.trod enc Try.prog W 0 (fun _ => true) true n 148 cs = some x) (hl : cs.length = 3) : ∃ y : Lk, cs = [Value.int .i64 y.week, Value.int .i64 y.w.lo, Value.int .i64 y.w.hi] := by
  obtain ⟨y0, y1, m, -, -, h0, h1⟩ := trod_struct2 Try.underlying148 h
  match cs, hl with
  | [a, b, c], _ =>
    obtain ⟨p, hp⟩ := int_cell (c := a) h0
    have e2 : DataW.trod enc Try.prog W 0 (fun _ => true) true m 146 [b, c] = some y1 := h1
    obtain ⟨s, hs⟩ := rangeS_of_trod e2 rfl
    simp only [List.cons.injEq, and_true] at hs
    exact ⟨⟨p, s⟩, by rw [hp, hs.1, hs.2]⟩
theorem flV_of_trod {b0 : Nat} {v : Value} {d : DataW H} {p : List MemPlace} (hok : Value.okWide Try.prog W .any b0 78 v) (h : DataW.Trod enc Try.prog W 0 (fun _ => true) true 78 v d p) : ∃ f, FlV (Lt W.heap.size) W v f := by
  obtain ⟨cs, rfl, hsz⟩ := okWide_struct Try.underlying78 hok
  obtain ⟨c0, c1, c2, c3, c4, c5, c6, c7, c8, rfl⟩ := array9 (hsz.trans (by kernel_rfl))
  obtain ⟨fuel, hf⟩ := h
  obtain ⟨y0, y1, y2, y3, y4, y5, y6, y7, y8, n, -, h0, h1, h2, h3, h4, h5, h6, h7, h8⟩ := trod_struct9 Try.underlying78 hf
  obtain ⟨last, e0⟩ := int_cell (c := c0) h0
  obtain ⟨ripe, e5⟩ := int_cell (c := c5) h5
  obtain ⟨late, e6⟩ := int_cell (c := c6) h6
  obtain ⟨trod, e7⟩ := int_cell (c := c7) h7
  obtain ⟨gs, H1, -⟩ := sl_of_trod (α := Rg) (sz := 2) (en := fun r : Rg => [Value.int .i64 r.lo, Value.int .i64 r.hi]) (G := fun _ => True) (t := 75) (e := 146) (v := c1) (by kernel_rfl) (by kernel_rfl) (by omega) (fun n cs x hx hl => by
    obtain ⟨y, hy⟩ := rangeS_of_trod hx hl
    exact ⟨y, hy, trivial⟩) h1
  obtain ⟨ws, H2⟩ := ints_of_trod (t := 47) (v := c2) (by kernel_rfl) h2
  obtain ⟨bs, H3⟩ := ints_of_trod (t := 47) (v := c3) (by kernel_rfl) h3
  obtain ⟨cs, H4⟩ := ints_of_trod (t := 47) (v := c4) (by kernel_rfl) h4
  obtain ⟨ls, H5, -⟩ := sl_of_trod (α := Lk) (sz := 3) (en := fun l : Lk => [Value.int .i64 l.week, Value.int .i64 l.w.lo, Value.int .i64 l.w.hi]) (G := fun _ => True) (t := 76) (e := 148) (v := c8) (by kernel_rfl) (by kernel_rfl) (by omega) (fun n cs x hx hl => by
    obtain ⟨y, hy⟩ := look_of_trod hx hl
    exact ⟨y, hy, trivial⟩) h8
  subst e0 e5 e6 e7
  exact ⟨⟨last, gs, ws, bs, cs, ripe, late, trod, ls⟩, c1, c2, c3, c4, c8, rfl, H1, H2, H3, H4, H5⟩
end
end Go.Proofs.Ytjddcaimjofihaa
