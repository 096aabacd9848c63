/- Trials, arrays of three small numbers, and lists of words that come in, as they read; no condition. -/
import Derived.Test.YtjddcaimjofihaaRO
namespace Go.Proofs.Ytjddcaimjofihaa
open Go.ChangeShapes Go.WideShapes Go.ChangeAt Go.RowKit Go.Deep
set_option maxRecDepth 100000

section
variable {H : Type} {enc : TypeId × Value → H} {W : World}
theorem trialV_of_trod {b0 : Nat} {v : Value} {d : DataW H} {p : List MemPlace} (hok : Value.okWide Try.prog W .any b0 68 v) (h : DataW.Trod enc Try.prog W 0 (fun _ => true) true 68 v d p) : ∃ y : Tl, v = .agg #[.bool y.cask, .int .i64 y.num, .int .i64 y.s.lo, .int .i64 y.s.hi] := by
  obtain ⟨cs, rfl, hsz⟩ := okWide_struct Try.underlying68 hok
  have hc : cs.size = 4 := hsz.trans (by kernel_rfl)
  obtain ⟨fuel, hf⟩ := h
  obtain ⟨y, hy⟩ := trial_of_trod (n := fuel) (cs := cs.toList) (by simpa [Value.cells] using hf) (by simpa using hc)
  exact ⟨y, by rw [← hy]⟩
theorem arr3_of_trod {b0 : Nat} {v : Value} {d : DataW H} {p : List MemPlace} (hok : Value.okWide Try.prog W .any b0 112 v) (h : DataW.Trod enc Try.prog W 0 (fun _ => true) true 112 v d p) : ∃ a b c : Int, v = .agg #[.int .u8 a, .int .u8 b, .int .u8 c] ∧ (0 ≤ a ∧ a ≤ 255) ∧ (0 ≤ b ∧ b ≤ 255) ∧ (0 ≤ c ∧ c ≤ 255) := by
  have hu : Try.prog.underlying 112 = some (.array 3 5) := by kernel_rfl
  have hz : Try.prog.cellsOf 112 = 3 := by kernel_rfl
  have h1 : Try.prog.cellsOf 5 = 1 := by kernel_rfl
  have he : Try.prog.underlying 5 = some (.int .u8) := by kernel_rfl
  simp only [Value.okWide, hu] at hok
  obtain ⟨cs, rfl, hsz, -⟩ := hok
  rw [hz] at hsz
  obtain ⟨x, y, z, rfl⟩ := Go.Joins.array3 hsz
  obtain ⟨fuel, hf⟩ := h
  have hb : ∀ q : Int, (Lit.int .u8 q).wf = true → 0 ≤ q ∧ q ≤ 255 := fun q hq => by simpa [Lit.wf, IntKind.min, IntKind.max, IntKind.bits, IntKind.signed] using hq
  cases fuel with
  | zero => simp [DataW.trod] at hf
  | succ m =>
    rw [DataW.trod_step] at hf
    unfold DataW.trodStep at hf
    simp only [hu, Value.cells] at hf
    rw [if_pos (by rw [hz]; rfl)] at hf
    simp only [Option.map_eq_some_iff, h1] at hf
    obtain ⟨ys, hy, -⟩ := hf
    rw [show List.range 3 = [0, 1, 2] from rfl] at hy
    simp only [List.mapM_cons, bind, Option.bind_eq_some_iff] at hy
    obtain ⟨u0, e0, _, ⟨u1, e1, _, ⟨u2, e2, -⟩, -⟩, -⟩ := hy
    obtain ⟨a, ha, -, wa⟩ := DataW.trod_int he e0
    obtain ⟨b, hb', -, wb⟩ := DataW.trod_int he e1
    obtain ⟨c, hc, -, wc⟩ := DataW.trod_int he e2
    simp at ha hb' hc
    subst ha; subst hb'; subst hc
    exact ⟨a, b, c, rfl, hb a wa, hb b wb, hb c wc⟩
abbrev Wds := Sl 1 (fun n : Int => [Value.int .u16 n])
theorem words_of_trod {t : TypeId} (ht : Try.prog.underlying t = some (.slice 60)) {fuel : Nat} {v : Value} {x : DataW H × List MemPlace} (h : DataW.trod enc Try.prog W 0 (fun _ => true) true fuel t [v] = some x) : ∃ l : List Int, Wds (Lt W.heap.size) W v l ∧ ∀ y ∈ l, 0 ≤ y ∧ y ≤ 65535 :=
  sl_of_trod (α := Int) (sz := 1) (en := fun n : Int => [Value.int .u16 n]) (G := fun y => 0 ≤ y ∧ y ≤ 65535) ht (by kernel_rfl) (by omega) (fun n cs x hx _ => by
    obtain ⟨y, rfl, -, wy⟩ := DataW.trod_int (k := .u16) (by kernel_rfl) hx
    exact ⟨y, rfl, by simpa [Lit.wf, IntKind.min, IntKind.max, IntKind.bits, IntKind.signed] using wy⟩) h
end
end Go.Proofs.Ytjddcaimjofihaa
