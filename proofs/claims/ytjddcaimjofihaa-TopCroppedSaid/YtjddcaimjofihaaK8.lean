/- Contracts of package crop: plans, strengths, ranges; no condition. -/
import Derived.Test.YtjddcaimjofihaaK7
namespace Go.Proofs.Ytjddcaimjofihaa
open Go.RowKit Go.Shelf
set_option maxRecDepth 100000

theorem planFrom_step {last : Int} : ∀ {l : List Int} {p : Int}, planFrom last (p + 1) l = true → ∀ k (hk : k < l.length), (p :: l).getD k 0 + 1 ≤ l[k] ∧ l[k] ≤ last
  | [], _, _, k, hk => by simp at hk
  | x :: l, p, h, k, hk => by
    simp only [planFrom, Bool.and_eq_true] at h
    have h1 := within_iff.1 h.1
    cases k with
    | zero => simpa using h1
    | succ k => simpa using planFrom_step h.2 k (by simpa using hk)
theorem fallFrom_step : ∀ {l : List Int} {hi : Int}, fallFrom hi l = true → ∀ k (hk : k < l.length), 0 ≤ l[k] ∧ l[k] ≤ (hi :: l).getD k 0
  | [], _, _, k, hk => by simp at hk
  | x :: l, hi, h, k, hk => by
    simp only [fallFrom, Bool.and_eq_true] at h
    have h1 := within_iff.1 h.1
    cases k with
    | zero => simpa using h1
    | succ k => simpa using fallFrom_step h.2 k (by simpa using hk)
theorem cell_in {w : World} {a : Addr} {v : Value} (h : w.cell? a = some v) : a.block < w.heap.size := by
  rcases Nat.lt_or_ge a.block w.heap.size with hlt | hge
  · exact hlt
  · exfalso
    unfold World.cell? at h
    rw [Array.getElem?_eq_none hge] at h
    simp at h
theorem getD_succ (p : Int) (l : List Int) (k : Nat) (hk : k < l.length) : (p :: l).getD (k + 1) 0 = l[k] := by
  rw [List.getD_eq_getElem?_getD, List.getElem?_cons_succ, List.getElem?_eq_getElem hk]; rfl

theorem plan1_yes {x p L : Int} (h : p + 1 ≤ x ∧ x ≤ L) (hp : -1 ≤ p ∧ p ≤ 100) (b s : Nat) (w : World) {cs : Array Value} {t : TypeId} (hr : w.heap[b]? = some (.cells #[.int .i64 p] 3 (0, 0))) (hs : w.cell? ⟨s, 0, none⟩ = some (.int .i64 L)) (_ : cs = cs ∧ t = t) :
    Calls Try.prog 151 #[.int .i64 x, .pointer (some ⟨b, 0, none⟩), .pointer (some ⟨s, 0, none⟩)] w fun e w' => e = .returned (.bool true) ∧ Chg (fun c => c = b) w w' ∧ w'.heap[b]? = some (.cells #[.int .i64 x] 3 (0, 0)) := by
  have c0 := cell_of_row hr 0
  have f0 := frozen_of_row hr 0
  simp only [List.getElem?_toArray, List.getElem?_cons_zero] at c0
  have hwr : IntKind.i64.wrap (p + 1) = p + 1 := IntWalk.i64_in _ (by omega)
  have hbl : b < w.heap.size := (Array.getElem?_eq_some_iff.1 hr).1
  have HR := hid (row_set hr 0 (.int .i64 x))
  have HH := hid h
  clear hr h
  go_enter Try.func151, Try.ntmps151
  go_wp2_with fail
  refine (withinK_yes HH.out _).mono ?_
  rintro e w' ⟨rfl, rfl⟩
  go_wp2
  go_ret
  exact ⟨rfl, setCell_chg _, by simpa using HR.out⟩

theorem base1_yes {x hi : Int} (h : 0 ≤ x ∧ x ≤ hi) (b : Nat) (w : World) (hr : w.heap[b]? = some (.cells #[.int .i64 hi] 3 (0, 0))) :
    Calls Try.prog 174 #[.int .i64 x, .pointer (some ⟨b, 0, none⟩)] w fun e w' => e = .returned (.bool true) ∧ Chg (fun c => c = b) w w' ∧ w'.heap[b]? = some (.cells #[.int .i64 x] 3 (0, 0)) := by
  have c0 := cell_of_row hr 0
  have f0 := frozen_of_row hr 0
  simp only [List.getElem?_toArray, List.getElem?_cons_zero] at c0
  have hbl : b < w.heap.size := (Array.getElem?_eq_some_iff.1 hr).1
  have HR := hid (row_set hr 0 (.int .i64 x))
  have HH := hid h
  clear hr h
  go_enter Try.func174, Try.ntmps174
  go_wp2_with fail
  refine (withinK_yes HH.out _).mono ?_
  rintro e w' ⟨rfl, rfl⟩
  go_wp2
  go_ret
  exact ⟨rfl, setCell_chg _, by simpa using HR.out⟩

set_option maxHeartbeats 1000000 in
theorem planK_yes (f : Fl) (hf : 0 ≤ f.last ∧ f.last ≤ 9) (fv : Value) (l : List Int) (hl : planB f.last f.base.length l = true) (v : Value) (n : Nat) (w : World) (hn : n ≤ w.heap.size) (h : FlV (Lt n) w fv f) (hi : Ints (Lt n) w v l) (hll : l.length ≤ 1000) :
    Calls Try.prog 100 #[fv, v] w fun e w' => e = .returned (.bool true) ∧ Below w.heap.size w w' := by
  have hmf : ∀ (fn : Fn) (first cap : Array Value) (w : World), (Instr.makeFunc fn first cap).run Try.prog w = .ok (.func fn first cap) w := fun _ _ _ _ => rfl
  obtain ⟨hlen, hpl⟩ := planB_iff.1 hl
  obtain ⟨ga, gc, wa, wc, ba, bc, ca, cc, la, lc, rfl, hp1, hp2, hp3, hp4, hp5⟩ := h.open
  obtain ⟨W, hW⟩ : ∃ W, W = (w.alloc (Obj.cells #[.int .i64 f.last, .slice ga f.growth.length gc, .slice wa f.wet.length wc, .slice ba f.base.length bc, .slice ca f.crops.length cc, .int .i64 f.ripe, .int .i64 f.late, .int .i64 f.trod, .slice la f.looks.length lc] 87)).alloc (Obj.cells #[.int .i64 (-1)] 3) := ⟨_, rfl⟩
  have hWs : W.heap.size = w.heap.size + 2 := by rw [hW]; simp
  have hWb : Below w.heap.size w W := by rw [hW]; exact below_alloc2 (Nat.le_refl _) _ _
  have q1 : W.heap[w.heap.size + 1]? = some (.cells #[.int .i64 (-1)] 3 (0, 0)) := by rw [hW]; exact heap_new2 _ _ _
  have q0 : W.heap[w.heap.size]? = some (.cells #[.int .i64 f.last, .slice ga f.growth.length gc, .slice wa f.wet.length wc, .slice ba f.base.length bc, .slice ca f.crops.length cc, .int .i64 f.ripe, .int .i64 f.late, .int .i64 f.trod, .slice la f.looks.length lc] 87 (0, 0)) := by
    rw [hW]; exact (Below.heap_alloc _ _ _ (by simp)).trans (heap_new _ _)
  have HALL := hid (allI_pass 151 #[] #[.pointer (some ⟨w.heap.size + 1, 0, none⟩), .pointer (some ⟨w.heap.size, 0, none⟩)] (enters_of Try.func151 (by kernel_rfl) rfl) l v n W (by omega) (hi.below (hWb.mono hn)) hll (fun b => b = w.heap.size + 1) (fun b hb => by omega)
    (fun k w' => w'.heap[w.heap.size + 1]? = some (.cells #[.int .i64 (((-1) :: l).getD k 0)] 3 (0, 0)) ∧ w'.cell? ⟨w.heap.size, 0, none⟩ = some (.int .i64 f.last)) ⟨q1, by rw [cell_of_row q0 0]; rfl⟩
    (fun k a b hj hb => ⟨row_grow hj.1 hb, (hb.cell (p := ⟨w.heap.size, 0, none⟩) (cell_in hj.2)).trans hj.2⟩)
    (fun k hk w' hc hj => by
      have hst := planFrom_step (p := -1) (by simpa using hpl) k hk
      have hpb : -1 ≤ ((-1) :: l).getD k 0 ∧ ((-1) :: l).getD k 0 ≤ 100 := by
        refine ⟨?_, by omega⟩
        cases k with
        | zero => simp
        | succ k =>
          have hk' : k < l.length := by omega
          rw [getD_succ (-1) l k hk']
          have := planFrom_mem hpl l[k] (List.getElem_mem _)
          omega
      refine (plan1_yes (cs := #[]) (t := 0) hst hpb (w.heap.size + 1) w.heap.size w' hj.1 hj.2 ⟨rfl, rfl⟩).mono ?_
      rintro e w2 ⟨rfl, hc2, hr2⟩
      exact ⟨rfl, hc2, by rw [getD_succ (-1) l k hk]; exact hr2, (hc2.cell (cell_in hj.2) (show ¬ (w.heap.size = w.heap.size + 1) by omega)).trans hj.2⟩))
  obtain ⟨a, cap, rfl, -, -⟩ := hi.open1
  have hlen' : decide ((l.length : Int) ≤ (f.base.length : Int)) = true := decide_eq_true (by omega)
  have hlenN : l.length ≤ f.base.length := hlen
  have HW := hid hW
  have HB := hid hWb
  clear hW hWb hWs q0 q1 hp1 hp2 hp3 hp4 hp5 h hi hl hlen hpl
  go_enter Try.func100, Try.ntmps100
  go_wp2_with fail
  rw [← HW.out]
  refine HALL.out.mono ?_
  rintro e w2 ⟨rfl, hc2, -⟩
  have HC2 := hid hc2
  clear hc2
  go_wp2
  go_ret
  exact ⟨rfl, HB.out.trans (HC2.out.below (by have := HB.out.size; omega) fun b hb e => by omega)⟩

set_option maxHeartbeats 1000000 in
theorem baseK_yes (f : Fl) (hg : GoodF f) (fv : Value) (n : Nat) (w : World) (hn : n ≤ w.heap.size) (h : FlV (Lt n) w fv f) :
    Calls Try.prog 140 #[fv] w fun e w' => e = .returned (.bool true) ∧ Below w.heap.size w w' := by
  have hmf : ∀ (fn : Fn) (first cap : Array Value) (w : World), (Instr.makeFunc fn first cap).run Try.prog w = .ok (.func fn first cap) w := fun _ _ _ _ => rfl
  have hfl := hg.base
  have hlen := hg.baseL
  obtain ⟨ga, gc, wa, wc, ba, bc, ca, cc, la, lc, rfl, hp1, hp2, hp3, hp4, hp5⟩ := h.open
  obtain ⟨W, hW⟩ : ∃ W, W = (w.alloc (Obj.cells #[.int .i64 f.last, .slice ga f.growth.length gc, .slice wa f.wet.length wc, .slice ba f.base.length bc, .slice ca f.crops.length cc, .int .i64 f.ripe, .int .i64 f.late, .int .i64 f.trod, .slice la f.looks.length lc] 87)).alloc (Obj.cells #[.int .i64 200] 3) := ⟨_, rfl⟩
  have hWs : W.heap.size = w.heap.size + 2 := by rw [hW]; simp
  have hWb : Below w.heap.size w W := by rw [hW]; exact below_alloc2 (Nat.le_refl _) _ _
  have q1 : W.heap[w.heap.size + 1]? = some (.cells #[.int .i64 200] 3 (0, 0)) := by rw [hW]; exact heap_new2 _ _ _
  have HALL := hid (allI_pass 174 #[] #[.pointer (some ⟨w.heap.size + 1, 0, none⟩)] (enters_of Try.func174 (by kernel_rfl) rfl) f.base _ n W (by omega) (hp3.below (hWb.mono hn)) (by omega) (fun b => b = w.heap.size + 1) (fun b hb => by omega)
    (fun k w' => w'.heap[w.heap.size + 1]? = some (.cells #[.int .i64 ((200 :: f.base).getD k 0)] 3 (0, 0))) q1
    (fun k a b hj hb => row_grow hj hb)
    (fun k hk w' hc hj => by
      refine (base1_yes (fallFrom_step hfl k hk) (w.heap.size + 1) w' hj).mono ?_
      rintro e w2 ⟨rfl, hc2, hr2⟩
      exact ⟨rfl, hc2, by rw [getD_succ 200 f.base k hk]; exact hr2⟩))
  have hlenI : decide ((0 : Int) < (f.base.length : Int)) = true := decide_eq_true (by omega)
  have hlenN : decide (0 < f.base.length) = true := decide_eq_true (by omega)
  have HW := hid hW
  have HB := hid hWb
  have hl1 := hlen.1
  clear hW hWb hWs q1 hp1 hp2 hp3 hp4 hp5 h hlen hfl hg
  go_enter Try.func140, Try.ntmps140
  go_wp2_with fail
  rw [← HW.out]
  refine HALL.out.mono ?_
  rintro e w2 ⟨rfl, hc2, -⟩
  have HC2 := hid hc2
  clear hc2
  go_wp2
  go_ret
  exact ⟨rfl, HB.out.trans (HC2.out.below (by have := HB.out.size; omega) fun b hb e => by omega)⟩

theorem CloneR_any (l : List Rg) (v : Value) (n : Nat) (w : World) (hn : n ≤ w.heap.size) (h : Rgs (Lt n) w v l) (hll : l.length ≤ 1000) :
    Calls Try.prog 181 #[v] w fun e w' => ∃ v', e = .returned v' ∧ Own w.heap.size 149 2 encR w' v' l ∧ Below w.heap.size w w' := by
  have heq : ∀ (w : World) (a : Option Addr) (n c n' c' : Nat), (binOp .eql 84 (.slice a n c) (.slice none n' c')).run Try.prog w = .ok (.bool a.isNone) w := fun w a n c n' c' => Lib.run_eql_slice_nil w _ _ a n c n' c' kranges_under
  have h' := h
  obtain ⟨a, cap, rfl, hcap, ho⟩ := h.open2
  cases a with
  | none =>
    have hl : l = [] := by
      rcases ho with h | ⟨b, off, h, -⟩
      · exact h
      · cases h
    subst hl
    have hz : (none : Option Addr).isNone = true := rfl
    go_enter Try.func181, Try.ntmps181
    go_wp2
    go_ret
    exact ⟨_, rfl, Own.nil, Below.refl _ _⟩
  | some p =>
    have HS := hid (h'.below (below_alloc1 hn (.cells #[] 149)))
    clear h h' ho
    go_enter Try.func181, Try.ntmps181
    go_wp2_with (at_builtin; refine wpList_appendL encR rfl _ _ 84 rfl w.heap.size 149 _ 2 16 kranges_under infoKRange rfl (by decide) encR_length encR_one _ [] rfl (Own.empty w (Nat.le_refl _)) _ _ l rfl HS.out (by simp; omega) (by decide) (by simp) ?_; intro v' w1 hown hgrow)
    go_ret
    exact ⟨v', rfl, by simpa using hown, (below_alloc1 (Nat.le_refl _) (Obj.cells #[] 149)).grown hgrow (by simp) (fun k hk => by cases hk; exact Nat.le_refl _)⟩

def RetRgs (l : List Rg) (w : World) (e : Ending) (w' : World) : Prop := ∃ v, e = .returned v ∧ Own w.heap.size 149 2 encR w' v l ∧ Below w.heap.size w w'

set_option maxHeartbeats 2000000 in
theorem rangesK_any (f : Fl) (hgl : f.growth.length ≤ 100) (hwl : f.wet.length ≤ 100) (v : Value) (n : Nat) (w : World) (hn : n ≤ w.heap.size) (h : FlV (Lt n) w v f) :
    Calls Try.prog 146 #[v] w (RetRgs (rangesF f) w) := by
  obtain ⟨ga, gc, wa, wc, ba, bc, ca, cc, la, lc, rfl, hp1, hp2, hp3, hp4, hp5⟩ := h.open
  obtain ⟨_, _, he, -, ho2⟩ := hp2.open1
  cases he
  obtain ⟨W, hW⟩ : ∃ W, W = w.alloc (Obj.cells #[.int .i64 f.last, .slice ga f.growth.length gc, .slice wa f.wet.length wc, .slice ba f.base.length bc, .slice ca f.crops.length cc, .int .i64 f.ripe, .int .i64 f.late, .int .i64 f.trod, .slice la f.looks.length lc] 87) := ⟨_, rfl⟩
  have hWs : W.heap.size = w.heap.size + 1 := by rw [hW]; simp
  have hWb : Below w.heap.size w W := by rw [hW]; exact below_alloc1 (Nat.le_refl _) _
  have hWr : W.heap[w.heap.size]? = some (.cells #[.int .i64 f.last, .slice ga f.growth.length gc, .slice wa f.wet.length wc, .slice ba f.base.length bc, .slice ca f.crops.length cc, .int .i64 f.ripe, .int .i64 f.late, .int .i64 f.trod, .slice la f.looks.length lc] 87 (0, 0)) := by rw [hW]; exact heap_new _ _
  have HBOX := hid (fun w1 (hb : Below W.heap.size W w1) => (hb.block w.heap.size (by omega)).trans hWr : ∀ w1, Below W.heap.size W w1 → w1.heap[w.heap.size]? = _)
  clear hWr
  have HI1 := hid (hp1.below (hWb.mono hn))
  have HO2 := hid ho2
  clear hp1 hp2 hp3 hp4 hp5 h ho2
  go_enter Try.func146, Try.ntmps146
  go_wp2_with fail
  rw [← hW]
  clear hW
  refine (CloneR_any f.growth _ n W (by omega) HI1.out (by omega)).mono ?_
  rintro e w2 ⟨v2, rfl, hown2, hb2⟩
  have HB2 := hid hb2
  have HOWN2 := hid (hown2.lower (Nat.le_refl _))
  have hs2 := hb2.size
  have hrow := HBOX.out w2 hb2
  have j0 := cell_of_row hrow 0
  have j1 := cell_of_row hrow 1
  have j2 := cell_of_row hrow 2
  have j3 := cell_of_row hrow 3
  have j4 := cell_of_row hrow 4
  have j5 := cell_of_row hrow 5
  have j6 := cell_of_row hrow 6
  have j7 := cell_of_row hrow 7
  have j8 := cell_of_row hrow 8
  simp only [List.getElem?_toArray, List.getElem?_cons_zero, List.getElem?_cons_succ] at j0 j1 j2 j3 j4 j5 j6 j7 j8
  clear hrow
  clear j0 j1 j3 j4 j5 j6 j7 j8
  clear hb2 hown2
  have hgl2 : w.heap.size < w2.heap.size := by omega
  go_wp2_with fail
  clear j2
  go_loopw [3, 13] (fun s i wr => ∃ (k : Nat), k ≤ f.wet.length ∧ i = .int .i64 k ∧ Own W.heap.size 149 2 encR wr s (f.growth ++ (f.wet.take k).map wetR) ∧ Below W.heap.size W wr) (fun _ i _ => f.wet.length - (intOf i).toNat)
  case atStart => exact ⟨0, by omega, rfl, by simpa using HOWN2.out, HB2.out⟩
  case round =>
    clear HB2 HOWN2
    obtain ⟨k, hk, rfl, hown, hb⟩ := hrel
    have hbs := hb.size
    by_cases hlt : k < f.wet.length
    · rcases HO2.out with hnil | ⟨b, off, rfl, hbn, hc⟩
      · rw [hnil] at hlt; simp at hlt
      have hbl : b < n := hbn
      have y0 := ((hWb.trans (hb.mono (by omega))).cell (p := ⟨b, off + k, none⟩) (by show b < _; omega)).trans (hc k hlt)
      have HT := hid (show f.growth ++ (f.wet.take (k + 1)).map wetR = (f.growth ++ (f.wet.take k).map wetR) ++ [wetR f.wet[k]] by rw [List.take_succ_eq_append_getElem hlt, List.map_append, ← List.append_assoc]; rfl)
      have hml : (f.growth ++ (f.wet.take k).map wetR).length ≤ 200 := by simp; omega
      clear hc
      generalize f.wet[k] = u at *
      obtain ⟨pa, pc, hv0, -, -⟩ := hown.slLt encR_length
      have HOWN := hid hown
      have HOB := hid hown.block
      have HB := hid hb
      generalize f.growth ++ (f.wet.take k).map wetR = pre at *
      obtain ⟨pm, hpm⟩ : ∃ pm, pm = pre.length := ⟨_, rfl⟩
      rw [← hpm] at hv0
      clear hpm hown hb
      subst hv0
      by_cases hu : u = 2
      · subst hu
        have hw : wetR 2 = ⟨0, 1⟩ := rfl
        rw [hw] at HT
        clear hw
        go_wp2_with (at_builtin; refine wpList_append1 encR rfl (.tmp 23) (.tmp 25) 84 rfl W.heap.size 149 (.agg #[.int .i64 0, .int .i64 0]) 2 16 kranges_under infoKRange rfl (by decide) encR_length encR_one _ pre rfl ((HOWN.out.below (below_alloc1 (Nat.le_refl _) _)).below (below_alloc1 (Nat.le_refl _) _)) _ _ (⟨0, 1⟩ : Rg) rfl (fun i c hc => by have := cells_new (wr.alloc (Obj.cells #[.int .i64 0, .int .i64 1] 149)) [.int .i64 0, .int .i64 1] 149 i c hc; rwa [World.size_alloc] at this) (by omega) (by decide) (by simp; omega) ?_; intro v7 w7 hown7 hgr7; have HX := hid (And.intro hown7 hgr7); clear hown7 hgr7)
        have hbE := hid (HB.out.trans ((((below_alloc2 (Nat.le_refl wr.heap.size) (Obj.cells #[.int .i64 0, .int .i64 1] 149) (Obj.cells #[.int .i64 0, .int .i64 1] 149)).mono hbs).grown HX.out.2 (by simp; omega) fun k hk => (HOB.out k hk).1)))
        go_roundw
        case rel => exact ⟨k + 1, by omega, by go_num, by rw [HT.out]; exact HX.out.1, hbE.out⟩
        case measure => simp [intOf]; omega
      · have hu3 : (u == 2) = false := by rw [beq_eq_false_iff_ne]; exact hu
        have hw : wetR u = ⟨u, u⟩ := if_neg hu
        rw [hw] at HT
        clear hw
        go_wp2_with (at_builtin; refine wpList_append1 encR rfl (.tmp 23) (.tmp 25) 84 rfl W.heap.size 149 (.agg #[.int .i64 0, .int .i64 0]) 2 16 kranges_under infoKRange rfl (by decide) encR_length encR_one _ pre rfl ((HOWN.out.below (below_alloc1 (Nat.le_refl _) _)).below (below_alloc1 (Nat.le_refl _) _)) _ _ (⟨u, u⟩ : Rg) rfl (fun i c hc => by have := cells_new (wr.alloc (Obj.cells #[.int .i64 u, .int .i64 u] 149)) [.int .i64 u, .int .i64 u] 149 i c hc; rwa [World.size_alloc] at this) (by omega) (by decide) (by simp; omega) ?_; intro v7 w7 hown7 hgr7; have HX := hid (And.intro hown7 hgr7); clear hown7 hgr7)
        have hbE := hid (HB.out.trans ((((below_alloc2 (Nat.le_refl wr.heap.size) (Obj.cells #[.int .i64 u, .int .i64 u] 149) (Obj.cells #[.int .i64 u, .int .i64 u] 149)).mono hbs).grown HX.out.2 (by simp; omega) fun k hk => (HOB.out k hk).1)))
        go_roundw
        case rel => exact ⟨k + 1, by omega, by go_num, by rw [HT.out]; exact HX.out.1, hbE.out⟩
        case measure => simp [intOf]; omega
    · have HE := hid (show f.growth ++ (f.wet.take k).map wetR = rangesF f by rw [List.take_of_length_le (by omega)]; rfl)
      go_wp2
      go_ret
      exact ⟨_, rfl, by rw [← HE.out]; exact hown.lower (by omega), hWb.trans (hb.mono (by omega))⟩
end Go.Proofs.Ytjddcaimjofihaa
