/- A cellar that comes in has no more trials than its bulk says; no condition. -/
import Derived.Test.YtjddcaimjofihaaRP
namespace Go.Proofs.Ytjddcaimjofihaa
open Go.ChangeShapes Go.WideShapes Go.ChangeAt Go.RowKit Go.Deep
set_option maxRecDepth 100000

theorem bulk_one {H : Type} (x : DataW H) : 1 ≤ Rows.uptoBulk x := by
  cases x with
  | lit l => cases l <;> simp [Rows.uptoBulk]
  | nil => simp [Rows.uptoBulk]
  | ptr d => simp [Rows.uptoBulk]
  | slice elems spare => simp [Rows.uptoBulk]
  | agg parts => simp [Rows.uptoBulk]
  | iface t d => simp [Rows.uptoBulk]
  | map entries => simp [Rows.uptoBulk]
  | held h => simp [Rows.uptoBulk]
theorem bulk_length {H : Type} : ∀ (l : List (DataW H)), (∀ x ∈ l, 2 ≤ Rows.uptoBulk x) → 2 * l.length ≤ Rows.uptoBulkAll l
  | [], _ => by simp [Rows.uptoBulkAll]
  | x :: r, h => by
    have h1 := h x (by simp)
    have h2 := bulk_length r fun y hy => h y (by simp [hy])
    simp only [Rows.uptoBulkAll, List.length_cons]
    omega
section
variable {H : Type} {enc : TypeId × Value → H} {W : World}
theorem trials_bulk {S : Nat → Prop} {c : Ce} {b0 : Nat} {v : Value} {d : DataW H} {p : List MemPlace} (hok : Value.okWide Try.prog W .any b0 26 v) (h : DataW.Trod enc Try.prog W 0 (fun _ => true) true 26 v d p) (ce : CeV S W v c) : 2 * c.trials.length ≤ Rows.uptoBulk d := by
  obtain ⟨c0, c1, c2, y0, y1, y2, m, rfl, rfl, -, h0, h1, h2⟩ := Go.Joins.open_agg3 Try.underlying26 (by kernel_rfl) (by kernel_rfl) hok h
  obtain ⟨_, _, _, _, _, _, he, -, -, -⟩ := ce.open
  simp only [Value.agg.injEq, Array.mk.injEq, List.cons.injEq, and_true] at he
  obtain ⟨-, -, rfl⟩ := he
  rcases open_slice (t := 24) (e := 68) (by kernel_rfl) h2 with ⟨hcs, -⟩ | ⟨a, len, cap, m, n, D, Pl, hcs, -, hlc, -, hmm, hx, hD⟩
  · simp only [List.cons.injEq, Value.slice.injEq, and_true] at hcs
    omega
  · simp only [List.cons.injEq, Value.slice.injEq, and_true] at hcs
    rw [hx]
    have := bulk_length ((List.range len).map D) fun x hx => by
      obtain ⟨i, hi, rfl⟩ := List.mem_map.1 hx
      have hi := List.mem_range.1 hi
      obtain ⟨cs', -, hd⟩ := hD i (by rw [hmm]; split <;> omega)
      obtain ⟨y0, y1, y2, q, he, -, -⟩ := trod_struct3 Try.underlying68 hd
      have he1 := congrArg Prod.fst he
      simp only at he1
      rw [he1]
      have := bulk_one y0.1
      simp only [Rows.uptoBulk, Rows.uptoBulkAll]
      omega
    simp only [List.length_map, List.length_range] at this
    simp only [Rows.uptoBulk, Rows.uptoBulkAll]
    omega
end
end Go.Proofs.Ytjddcaimjofihaa
