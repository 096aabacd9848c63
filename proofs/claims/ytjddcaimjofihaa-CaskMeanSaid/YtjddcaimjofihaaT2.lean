/- The contract of the reference's Truths; no condition. -/
import Derived.Test.YtjddcaimjofihaaR2
namespace Go.Proofs.Ytjddcaimjofihaa
open Go.RowKit Go.Shelf
set_option maxRecDepth 100000

theorem wpList_append1L {ops : Array Oper} {rest : List Oper} {o : Oper} {a : Act} {Q : Exit → Act → World → Prop} {w : World} (hgd : o.guard = none) (s x : Operand) (base : Nat)
    (ho : o.op = .call { callee := .builtin .append, args := #[s, x], argTypes := #[23, 23] })
    (v : Value) (ls : List (List Int)) (hs : a.eval s = v) (hown : OwnL base w v ls) (g c : Nat) (xv : Value) (l : List Int)
    (hx : a.eval x = .slice (some ⟨g, 0, none⟩) 1 c) (hnews : w.cell? ⟨g, 0, none⟩ = some xv) (hxl : Ints (fun b => base ≤ b ∧ b < w.heap.size ∧ v.ownBlock ≠ some b) w xv l)
    (hlen : ls.length ≤ 100000) (hbase : base ≤ w.heap.size)
    (h : ∀ v' w', OwnL base w' v' (ls ++ [l]) → w.grownBy w' v.ownBlock → wpList Try.prog ops Q rest (a.put o.dst v') w') : wpList Try.prog ops Q (o :: rest) a w :=
  wpList_plain hgd fun _ hK => wp_append1L s x base ho v ls hs hown g c xv l hx hnews hxl hlen hbase fun v' w' h2 h3 => hK _ _ (h v' w' h2 h3)

theorem OwnL.lower {base base' : Nat} {w : World} {v : Value} {ls : List (List Int)} (h : OwnL base w v ls) (hb : base' ≤ base) : OwnL base' w v ls := by
  obtain ⟨vs, h1, h2, h3⟩ := h
  refine ⟨vs, h1.lower hb, h2, fun j x l hx hl => ?_⟩
  have := h3 j x l hx hl
  exact this.mono fun b hb' => ⟨Nat.le_trans hb hb'.1, hb'.2⟩
/-- The truths among the first numbers. -/
def truthsN (c : Ce) (k : Nat) : List (List Int) := ((List.range k).map fun n : Nat => nthL c.heaps n).filter (isTruthR c)
theorem truthsN_succ (c : Ce) (k : Nat) : truthsN c (k + 1) = truthsN c k ++ if isTruthR c (nthL c.heaps k) then [nthL c.heaps k] else [] := by
  unfold truthsN
  rw [List.range_succ, List.map_append, List.filter_append]
  congr 1
  simp only [List.map_cons, List.map_nil, List.filter_cons, List.filter_nil]
theorem truthsN_length (c : Ce) (k : Nat) : (truthsN c k).length ≤ k := by
  unfold truthsN
  exact Nat.le_trans (List.length_filter_le _ _) (by simp)
theorem manyR_hid {z : Int} (c : Ce) (HZ : Hid (z = manyR c)) (hr : ∀ r ∈ c.heaps, 0 ≤ r.lo ∧ r.lo ≤ r.hi ∧ r.hi ≤ 100) (hhl : c.heaps.length ≤ 1000) (v : Value) (n : Nat) (w : World) (hn : n ≤ w.heap.size) (h : CeV (Lt n) w v c) :
    Calls Try.prog 40 #[v] w fun e w' => e = .returned (.int .i64 z) ∧ Below w.heap.size w w' := by
  rw [HZ.out]; exact many_any c hr hhl v n w hn h
theorem isTruth_hid {b : Bool} (c : Ce) (hg : Good c) (l : List Int) (HB : Hid (b = isTruthR c l)) (hll : l.length ≤ 1000) (v vl : Value) (n : Nat) (w : World) (hn : n ≤ w.heap.size) (h : CeV (Lt n) w v c) (hl : Ints (Lt n) w vl l) :
    Calls Try.prog 59 #[v, vl] w fun e w' => e = .returned (.bool b) ∧ Below w.heap.size w w' := by
  rw [HB.out]; exact isTruth_any c hg l hll v vl n w hn h hl

set_option maxHeartbeats 2000000 in
theorem truthsR_any (c : Ce) (hf : fault c = 0) (v : Value) (n : Nat) (w : World) (hn : n ≤ w.heap.size) (h : CeV (Lt n) w v c) :
    Calls Try.prog 37 #[v] w fun e w' => ∃ v', e = .returned v' ∧ OwnL w.heap.size w' v' (truthsR c) ∧ Below w.heap.size w w' := by
  have hg := (fault_good hf).1
  obtain ⟨⟨g1, g2, g3, g4⟩, g5, -⟩ := hg.facts
  obtain ⟨hm0, hm1, hm2⟩ := manyR_eq hf
  have h' := h
  obtain ⟨ha, hc, ka, kc, ta, tc, rfl, -, -, -⟩ := h.open
  obtain ⟨W, hW⟩ : ∃ W, W = w.alloc (Obj.cells #[.slice ha c.heaps.length hc, .slice ka c.casks.length kc, .slice ta c.trials.length tc] 26) := ⟨_, rfl⟩
  have hWs : W.heap.size = w.heap.size + 1 := by rw [hW]; simp
  have hWb : Below w.heap.size w W := by rw [hW]; exact below_alloc1 (Nat.le_refl _) _
  have hWr : W.heap[w.heap.size]? = some (.cells #[.slice ha c.heaps.length hc, .slice ka c.casks.length kc, .slice ta c.trials.length tc] 26 (0, 0)) := by rw [hW]; exact heap_new _ _
  have HBOX := hid (fun w1 (hb : Below W.heap.size W w1) => (hb.block w.heap.size (by omega)).trans hWr : ∀ w1, Below W.heap.size W w1 → w1.heap[w.heap.size]? = _)
  have HCE := hid (fun w1 (hb : Below W.heap.size W w1) => h'.below (hWb.trans (hb.mono (by omega)) |>.mono hn) : ∀ w1, Below W.heap.size W w1 → CeV (Lt n) w1 _ c)
  obtain ⟨M, hM⟩ := Int.eq_ofNat_of_zero_le (show 0 ≤ manyR c by omega)
  have HM := hid (show (M : Int) = manyR c from hM.symm)
  have HR := hid (show truthsR c = truthsN c M by rw [truthsR, truthsN, hM]; simp)
  rw [hM] at hm1 hm2
  have HG := hid hg
  have HG5 := hid g5
  clear hM hm0 hWr h' h hg g5 hf
  go_enter Try.func37, Try.ntmps37
  go_wp2
  rw [← hW]
  clear hW
  go_loopw [3, 4] (fun ov i wr => ∃ k : Nat, k ≤ M ∧ i = .int .i64 k ∧ OwnL W.heap.size wr ov (truthsN c k) ∧ Below W.heap.size W wr) (fun _ i _ => M - (intOf i).toNat)
  case atStart => exact ⟨0, by omega, rfl, OwnL.nil, Below.refl _ _⟩
  case round =>
    obtain ⟨k, hk, rfl, hown, hb⟩ := hrel
    have HB := hid hb
    have hbs := hb.size
    have j0 := cell_of_row (HBOX.out wr hb) 0
    have j1 := cell_of_row (HBOX.out wr hb) 1
    have j2 := cell_of_row (HBOX.out wr hb) 2
    simp only [List.getElem?_toArray, List.getElem?_cons_zero, List.getElem?_cons_succ] at j0 j1 j2
    have hlen := truthsN_length c k
    obtain ⟨pa, pc, rfl⟩ := hown.open
    clear hb
    obtain ⟨tm, htm⟩ : ∃ tm, tm = (truthsN c k).length := ⟨_, rfl⟩
    rw [← htm] at hlen hown
    have HOWN := hid hown
    have HOB := hid hown.block
    clear hown
    have HTM := hid htm
    go_wp2_with fail
    rw [← htm]
    clear htm
    refine (manyR_hid c HM HG5.out (by omega) _ n wr (by omega) (HCE.out wr HB.out)).mono ?_
    rintro e w1 ⟨rfl, hb1⟩
    have HB1 := hid (below_after HB.out hb1 (Nat.le_refl _))
    have HD1 := hid hb1
    have hs1 := HB1.out.size
    have hd1 := hb1.size
    clear hb1 j0 j1 j2
    by_cases hlt : k < M
    · have j0 := cell_of_row (HBOX.out w1 HB1.out) 0
      have j1 := cell_of_row (HBOX.out w1 HB1.out) 1
      have j2 := cell_of_row (HBOX.out w1 HB1.out) 2
      simp only [List.getElem?_toArray, List.getElem?_cons_zero, List.getElem?_cons_succ] at j0 j1 j2
      go_wp2_with fail
      refine (nth_any c HG5.out (by omega) k (by omega) _ n w1 (by omega) (HCE.out w1 HB1.out)).mono ?_
      rintro e w2 ⟨v2, rfl, ho2, hb2⟩
      have HB2 := hid (below_after HB1.out hb2 (Nat.le_refl _))
      have HD2 := hid (below_after HD1.out hb2 (Nat.le_refl _))
      have hs2 := HB2.out.size
      have hd2 := hb2.size
      have hi2 := ho2.slLt (fun _ => rfl)
      have hi2b := ho2.sl (fun _ => rfl)
      have hll := nthL_length c.heaps (k : Int)
      have HSN := hid (truthsN_succ c k)
      obtain ⟨tl, htl⟩ : ∃ tl, tl = nthL c.heaps (k : Int) := ⟨_, rfl⟩
      rw [← htl] at hi2 hi2b hll HSN
      have HTL := hid htl
      clear htl ho2 hb2 j0 j1 j2
      obtain ⟨tb, htb⟩ : ∃ tb, tb = isTruthR c tl := ⟨_, rfl⟩
      have HTB := hid htb
      rw [← htb] at HSN
      clear htb
      obtain ⟨xa, xc, rfl, -, -⟩ := id hi2.open1
      have HLL := hid hll
      clear hll
      have j0 := cell_of_row (HBOX.out w2 HB2.out) 0
      have j1 := cell_of_row (HBOX.out w2 HB2.out) 1
      have j2 := cell_of_row (HBOX.out w2 HB2.out) 2
      simp only [List.getElem?_toArray, List.getElem?_cons_zero, List.getElem?_cons_succ] at j0 j1 j2
      have HI2 := hid hi2
      have HI2B := hid hi2b
      clear hi2 hi2b
      go_wp2_with fail
      refine (isTruth_hid c HG.out tl HTB (by have := HLL.out; omega) _ _ w2.heap.size w2 (Nat.le_refl _) ((HCE.out w2 HB2.out).le (by omega)) HI2.out).mono ?_
      rintro e w3 ⟨rfl, hb3⟩
      have HB3 := hid (below_after HB2.out hb3 (Nat.le_refl _))
      have HD3 := hid (below_after HD2.out hb3 (Nat.le_refl _))
      have hs3 := HB3.out.size
      have hd3 := hb3.size
      have hdr := HD3.out.size
      have HC3 := hid hb3
      clear hb3 j0 j1 j2
      cases tb with
      | false =>
        go_wp2
        go_roundw
        case rel => exact ⟨k + 1, by omega, by go_num, by rw [HSN.out]; simpa using HOWN.out.below HD3.out, HB3.out⟩
        case measure => simp [intOf]; omega
      | true =>
        have hown3 := (HOWN.out.below HD3.out).below (below_alloc1 (Nat.le_refl _) (Obj.cells #[.slice xa tl.length xc] 47))
        have hca := HC3.out.alloc (by omega) (Obj.cells #[.slice xa tl.length xc] 47)
        have hi3 : Ints (fun bb => W.heap.size ≤ bb ∧ bb < (w3.alloc (Obj.cells #[.slice xa tl.length xc] 47)).heap.size ∧ (Value.slice pa tm pc).ownBlock ≠ some bb) (w3.alloc (Obj.cells #[.slice xa tl.length xc] 47)) (.slice xa tl.length xc) tl :=
          (HI2B.out.keep ⟨hca.size, fun bb hb => hca.block bb hb.2⟩).mono fun bb hbb => ⟨by have h1 : w1.heap.size ≤ bb := hbb.1; omega, by have h2 : bb < w2.heap.size := hbb.2; simp; omega, fun e => by have h3 := HOB.out bb e; have h1 : w1.heap.size ≤ bb := hbb.1; omega⟩
        clear hca
        have HOWN3 := hid hown3
        have HI3 := hid hi3
        clear hown3 hi3
        go_wp2_with (at_builtin; refine wpList_append1L rfl _ _ W.heap.size rfl (.slice pa tm pc) (truthsN c k) (by rfl) HOWN3.out w3.heap.size 1 _ tl (by rfl) (cells_new w3 [.slice xa tl.length xc] 47 0 _ rfl) HI3.out (by rw [← HTM.out]; omega) (by simp; omega) ?_; intro v4 w4 hown4 hgr4)
        have HX4 := hid hown4
        have HG4 := hid ((HB3.out.alloc (by omega) _).trans ((chg_grown hgr4).below (by simp; omega) fun b hb h => by have := HOB.out b h; omega))
        clear hown4 hgr4
        go_roundw
        case rel => exact ⟨k + 1, by omega, by go_num, by rw [HSN.out]; exact HX4.out, HG4.out⟩
        case measure => simp [intOf]; omega
    · go_wp2
      go_ret
      obtain rfl : k = M := by omega
      refine ⟨_, rfl, ?_, hWb.trans (HB1.out.mono (by omega))⟩
      rw [HR.out]
      exact (HOWN.out.below HD1.out).lower (by omega)
end Go.Proofs.Ytjddcaimjofihaa
