/- Contracts of the reference's Empty, Wider, Bounds and Graded, and of the statements' sure and ranges; no condition. -/
import Derived.Test.YtjddcaimjofihaaGreatT2
namespace Go.Proofs.YtjddcaimjofihaaGreat
open Go.RowKit Go.Shelf
set_option maxRecDepth 100000



theorem ofR_hid {z : Int} (c : Ce) (hg : Good c) (l : List Int) (hf : Fit c l) (t : Int) (HZ : Hid (z = ofT c l t)) (v vl : Value) (h0 : 0 ≤ t) (h1 : t < c.heaps.length + c.casks.length) (n : Nat) (w : World) (hn : n ≤ w.heap.size) (h : CeV (Lt n) w v c) (hl : Ints (Lt n) w vl l) :
    Calls Tryz.prog 41 #[v, vl, .int .i64 t] w fun e w' => e = .returned (.int .i64 z) ∧ Below w.heap.size w w' := by
  rw [HZ.out]; exact ofR_any c hg l hf v vl t h0 h1 n w hn h hl

def bndN (c : Ce) (t : Int) (L : List (List Int)) : Rg := L.foldl (fun r s => wider r (ofT c s t)) ⟨1099511627776, -1099511627776⟩
theorem bndN_take (c : Ce) (t : Int) (L : List (List Int)) (k : Nat) (h : k < L.length) : bndN c t (L.take (k + 1)) = wider (bndN c t (L.take k)) (ofT c L[k] t) := by
  rw [bndN, bndN, List.take_succ_eq_append_getElem h, List.foldl_append]; rfl

end Go.Proofs.YtjddcaimjofihaaGreat
