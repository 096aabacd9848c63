/- Contracts of package cask: decides, Decide; no condition. -/
import Derived.Test.YtjddcaimjofihaaB6
import Derived.Test.YtjddcaimjofihaaB7
import Derived.Deep.DeepCutAuto
namespace Go.Proofs.Ytjddcaimjofihaa
open Go.RowKit Go.Shelf Go.Maps
set_option maxRecDepth 100000

/-- Whether things decide a grade in some truths: M1 numbers what they show, M2 keeps which casks are of the grade then. -/
def decS (c : Ce) (g : Int) (ts : List Int) : List (List Int) → List ((Int × Int) × Int) → List (Int × Int) → Bool
  | [], _, _ => true
  | s :: T, M1, M2 => match M2.lookup (classS M1 0 (ts.map (ofT c (pad3 s)))).2 with
    | some old => if old = gradesOf c (pad3 s) g then decS c g ts T (classS M1 0 (ts.map (ofT c (pad3 s)))).1 M2 else false
    | none => decS c g ts T (classS M1 0 (ts.map (ofT c (pad3 s)))).1 (M2 ++ [((classS M1 0 (ts.map (ofT c (pad3 s)))).2, gradesOf c (pad3 s) g)])
def klI (a : Int) : Lit := .int .i64 a
def goodI (a : Int) : Prop := (Lit.int .i64 a).wf = true
theorem klI_inj : ∀ a b : Int, goodI a → goodI b → klI a = klI b → a = b := fun a b _ _ h => by
  simp only [klI, Lit.int.injEq, true_and] at h; exact h
theorem klI_key (a : Int) : WideAt.IsKeyLit (klI a) := trivial
theorem key_int (a : Int) (h : goodI a) : keyOf Try.prog 3 (.int .i64 a) = some (klI a) := keyOf_int_mk int_under h
def ownI (w : World) (b k : Nat) (D : DataW Unit) : Prop := w.ownsMap Try.prog 3 (plainElem Try.prog 3) b k D
theorem ownI.chg {w w' : World} {b k bm : Nat} {D : DataW Unit} (h : ownI w b k D) (hc : Chg (fun x => x = bm) w w') (hne : b ≠ bm) : ownI w' b k D :=
  World.ownsMap.kept (row := some bm) h ⟨hc.os, hc.tape, hc.output, hc.size, fun k hk hn => hc.block k hk (fun e => hn (by rw [e]))⟩ (by simpa using hne)

theorem ownI.below {w w' : World} {b k : Nat} {D : DataW Unit} (h : ownI w b k D) (hb : Below w.heap.size w w') : ownI w' b k D :=
  World.ownsMap.kept (row := none) h ⟨hb.os, hb.tape, hb.output, hb.size, fun k hk _ => hb.block k hk⟩ (by simp)
theorem ownP.chg {w w' : World} {b k bm : Nat} {D : DataW Unit} (h : ownP w b k D) (hc : Chg (fun x => x = bm) w w') (hne : b ≠ bm) : ownP w' b k D :=
  World.ownsMap.kept (row := some bm) h ⟨hc.os, hc.tape, hc.output, hc.size, fun k hk hn => hc.block k hk (fun e => hn (by rw [e]))⟩ (by simpa using hne)
theorem gradesOf_bd {c : Ce} (hg : Good c) (s : List Int) (g : Int) : 0 ≤ gradesOf c s g ∧ gradesOf c s g ≤ 100000000 := by
  have h := gbits_bd (gradesL c s g)
  obtain ⟨⟨-, -, g3, -⟩, -⟩ := hg.facts
  have hl : (gradesL c s g).length = c.casks.length := by simp [gradesL]
  rw [hl] at h
  have hp : (2 : Int) ^ c.casks.length ≤ 8 := by
    have : c.casks.length = 0 ∨ c.casks.length = 1 ∨ c.casks.length = 2 ∨ c.casks.length = 3 := by omega
    rcases this with e | e | e | e <;> rw [e] <;> decide
  unfold gradesOf
  omega
/-- What the round has behind class and grades. -/
structure DecCut (w0 : World) (x z : Int) (M1 : List ((Int × Int) × Int)) (kb : Nat) (D2 : DataW Unit) (k2 : Nat) (s11 s12 : Value) (wx : World) : Prop where
  e11 : s11 = .int .i64 x
  e12 : s12 = .int .i64 z
  m1 : ∃ D k, k ≤ kb ∧ ownP wx w0.heap.size k D ∧ Assoc klP goodP D M1
  m2 : ownI wx (w0.heap.size + 1) k2 D2
  below : Below w0.heap.size w0 wx

theorem classS_bd (B : Int) (xs : List Int) : ∀ (M : List ((Int × Int) × Int)) (n : Int), (∀ p ∈ M, 0 ≤ p.2 ∧ p.2 ≤ B) → 0 ≤ n → n ≤ B → (M.length : Int) + xs.length + 1 ≤ B →
    (classS M n xs).1.length ≤ M.length + xs.length ∧ (∀ p ∈ (classS M n xs).1, 0 ≤ p.2 ∧ p.2 ≤ B) ∧ 0 ≤ (classS M n xs).2 ∧ (classS M n xs).2 ≤ B := by
  induction xs with
  | nil => intro M n hM h0 h1 _; exact ⟨by simp [classS], hM, h0, h1⟩
  | cons x xs ih =>
    intro M n hM h0 h1 hB
    simp only [List.length_cons, Int.natCast_add, Int.natCast_one] at hB
    unfold classS
    split
    · next v hv =>
      have := hM _ (lookup_mem hv)
      obtain ⟨q1, q2⟩ := ih M v hM this.1 this.2 (by omega)
      exact ⟨by simp only [List.length_cons]; omega, q2⟩
    · next hv =>
      obtain ⟨q1, q2⟩ := ih (M ++ [((n, x), (M.length : Int) + 1)]) ((M.length : Int) + 1) (fun p hp => by
        rcases List.mem_append.1 hp with hp | hp
        · exact hM p hp
        · simp at hp; subst hp; simp only; omega) (by omega) (by omega) (by simp only [List.length_append, List.length_cons, List.length_nil, Int.natCast_add, Int.natCast_one]; omega)
      exact ⟨by simp only [List.length_append, List.length_cons, List.length_nil] at q1 ⊢; omega, q2⟩

set_option maxHeartbeats 2000000 in
theorem decides_any (c : Ce) (hg : Good c) (T : List (List Int)) (hT : Fits T) (hTl : T.length ≤ 2000) (vw : Value) (n : Nat) (g : Int) (ts : List Int) (vt : Value) (hts : ∀ t ∈ ts, 0 ≤ t ∧ t < c.heaps.length + c.casks.length) (htl : ts.length ≤ 1000) (w : World) (hn : n ≤ w.heap.size) (h : WorkV (Lt n) w vw c T) (hvt : Ints (Lt n) w vt ts) :
    Calls Try.prog 124 #[vw, .int .i64 g, vt] w fun e w' => e = .returned (.bool (decS c g ts T [] [])) ∧ Below w.heap.size w w' := by
  have hmm := @run_makeMap Try.prog
  have h' := h
  obtain ⟨b, ha, hc, ka, kc, ta, tc, sa, sc, rfl, hb, c0, c1, c2, c3, hce, hsc, ho⟩ := h.open
  have hvt' := hvt
  obtain ⟨tsa, tscap, rfl, -, -⟩ := hvt.open1
  have hbw : b < w.heap.size := Nat.lt_of_lt_of_le hb hn
  have HO := hid ho
  have HT := hid hT
  have HTS := hid hts
  clear ho hT hts
  go_enter Try.func124, Try.ntmps124
  go_wp2
  obtain ⟨W, hW⟩ : ∃ W, W = (w.alloc (Obj.map #[] 0)).alloc (Obj.map #[] 0) := ⟨_, rfl⟩
  rw [← hW]
  have hWs : W.heap.size = w.heap.size + 2 := by rw [hW]; simp
  have hWb : Below w.heap.size w W := by rw [hW]; exact below_alloc2 (Nat.le_refl _) _ _
  have own1 : ownP W w.heap.size 0 (.map []) := by rw [hW]; exact World.ownsMap.alloc (World.ownsMap_made _ _ _ _) _
  have own2 : ownI W (w.heap.size + 1) 0 (.map []) := by
    have := World.ownsMap_made (H := Unit) (w.alloc (Obj.map #[] 0)) Try.prog 3 (plainElem Try.prog 3)
    rw [World.size_alloc] at this
    rw [hW]; exact this
  clear hW
  obtain ⟨m, hm⟩ : ∃ m, m = T.length := ⟨_, rfl⟩
  rw [← hm]
  have HM := hid hm
  clear hm
  go_loopw [22] (fun i wr => ∃ (k : Nat) (M1 : List ((Int × Int) × Int)) (M2 : List (Int × Int)) (D1 D2 : DataW Unit) (k1 k2 : Nat), k ≤ m ∧ i = .int .i64 k ∧ Hid (decS c g ts (T.drop k) M1 M2 = decS c g ts T [] []) ∧ Assoc klP goodP D1 M1 ∧ ownP wr w.heap.size k1 D1 ∧ Assoc klI goodI D2 M2 ∧ ownI wr (w.heap.size + 1) k2 D2 ∧
      k1 ≤ k * 1000 ∧ k2 ≤ k ∧ M1.length ≤ k * 1000 ∧ M2.length ≤ k ∧ Hid (∀ p ∈ M1, 0 ≤ p.2 ∧ p.2 ≤ 50000000) ∧ Below w.heap.size w wr) (fun i _ => m - (intOf i).toNat)
  case atStart => exact ⟨0, [], [], .map [], .map [], 0, 0, by omega, rfl, hid rfl, Assoc.nil, own1, Assoc.nil, own2, by omega, by omega, by simp, by simp, hid (fun p hp => by simp at hp), hWb⟩
  case round =>
    obtain ⟨k, M1, M2, D1, D2, k1, k2, hk, rfl, HI, hA1, ho1, hA2, ho2, hk1, hk2, hl1, hl2, HB1, hB⟩ := hrel
    by_cases hlt : k < m
    · have hkl : k < T.length := by rw [← HM.out]; exact hlt
      obtain h2 | ⟨bs, off, rfl, hbs, hcs⟩ := HO.out
      · rw [h2] at hkl; simp at hkl
      have hbsw : bs < w.heap.size := Nat.lt_of_lt_of_le hbs hn
      obtain ⟨v0, v1, v2⟩ := hcs k hkl
      clear hcs
      have H3k := HT.out.three (List.getElem_mem hkl)
      have HD := hid (show T.drop k = (T[k]'hkl) :: T.drop (k + 1) from List.drop_eq_getElem_cons hkl)
      generalize T[k]'hkl = tk at *
      have g0 := ((bcell hB).1 bs _ hbsw).trans v0
      have g1 := ((bcell hB).1 bs _ hbsw).trans v1
      have g2 := ((bcell hB).1 bs _ hbsw).trans v2
      generalize tk.getD 0 0 = u0 at *
      generalize tk.getD 1 0 = u1 at *
      generalize tk.getD 2 0 = u2 at *
      clear v0 v1 v2
      obtain ⟨xs, hxs⟩ : ∃ xs, xs = ts.map (ofT c (pad3 tk)) := ⟨_, rfl⟩
      obtain ⟨z, hz⟩ : ∃ z, z = gradesOf c (pad3 tk) g := ⟨_, rfl⟩
      have hxl : xs.length = ts.length := by rw [hxs]; simp
      have HXS := hid hxs
      have HZ := hid hz
      have HXL := hid hxl
      clear hxs hz hxl
      go_upto_region 5 with fail
      go_cut [11, 12] (fun s11 s12 wx => DecCut w (classS M1 0 xs).2 z (classS M1 0 xs).1 (k1 + 1000) D2 k2 s11 s12 wx)
      case first =>
        obtain ⟨E, hE⟩ : ∃ E, E = (wr.alloc (Obj.cells #[Value.int .i64 u0, Value.int .i64 u1, Value.int .i64 u2] 140)).drew := ⟨_, rfl⟩
        refine wp_region_held (S := fun w' => w'.cell? ⟨wr.heap.size, 0, none⟩ = some (.int .i64 u0) ∧ w'.cell? ⟨wr.heap.size, 1, none⟩ = some (.int .i64 u1) ∧ w'.cell? ⟨wr.heap.size, 2, none⟩ = some (.int .i64 u2)) (by kernel_rfl) ?_
        change wpAnyH _ _ _ _ _ _ _ _ (wr.alloc (Obj.cells #[Value.int .i64 u0, Value.int .i64 u1, Value.int .i64 u2] 140)).drew
        rw [← hE]
        have hBE : Below wr.heap.size wr E := by rw [hE]; exact (below_alloc1 (Nat.le_refl _) _).drew
        have hsE : E.heap.size = wr.heap.size + 1 := by rw [hE]; simp
        have hrE : E.heap[wr.heap.size]? = some (.cells #[.int .i64 u0, .int .i64 u1, .int .i64 u2] 140 (0, 0)) := by rw [hE]; exact heap_new wr _
        have hS0 : E.cell? ⟨wr.heap.size, 0, none⟩ = some (.int .i64 u0) ∧ E.cell? ⟨wr.heap.size, 1, none⟩ = some (.int .i64 u1) ∧ E.cell? ⟨wr.heap.size, 2, none⟩ = some (.int .i64 u2) := ⟨cell_of_row hrE 0, cell_of_row hrE 1, cell_of_row hrE 2⟩
        clear hE hrE
        refine wpAnyH_take (i := 0) (v := .pointer (some ⟨b, 0, none⟩)) rfl (by kernel_rfl) (by kernel_rfl) (by kernel_rfl) (fun _ _ _ h => h) (.inl ⟨by rfl, ?_⟩) hS0 ?_
        · rintro w' ⟨hx0, hx1, hx2⟩
          go_simp
        simp only [Act.put, List.setIfInBounds_toArray]
        refine wpAnyH_take (i := 1) (v := .agg #[.int .i64 u0, .int .i64 u1, .int .i64 u2]) rfl (by kernel_rfl) (by kernel_rfl) (by kernel_rfl) (fun _ _ _ h => h) (.inl ⟨by rfl, ?_⟩) hS0 ?_
        · rintro w' ⟨hx0, hx1, hx2⟩
          go_simp
        simp only [Act.put]
        refine wpAnyH_take (i := 2) (v := .slice tsa ts.length tscap) rfl (by kernel_rfl) (by kernel_rfl) (by kernel_rfl) (fun _ _ _ h => h) (.inl ⟨by rfl, ?_⟩) hS0 ?_
        · rintro w' ⟨hx0, hx1, hx2⟩
          go_simp
        simp only [Act.put]
        refine wpAnyH_take (i := 3) (v := .map (some w.heap.size)) rfl (by kernel_rfl) (by kernel_rfl) (by kernel_rfl) (fun _ _ _ h => h) (.inl ⟨by rfl, ?_⟩) hS0 ?_
        · rintro w' ⟨hx0, hx1, hx2⟩
          go_simp
        simp only [Act.put]
        refine wpAnyH_take (i := 5) (v := .pointer (some ⟨b, 0, none⟩)) rfl (by kernel_rfl) (by kernel_rfl) (by kernel_rfl) (fun _ _ _ h => h) (.inl ⟨by rfl, ?_⟩) hS0 ?_
        · rintro w' ⟨hx0, hx1, hx2⟩
          go_simp
        simp only [Act.put]
        refine wpAnyH_take (i := 6) (v := .agg #[.int .i64 u0, .int .i64 u1, .int .i64 u2]) rfl (by kernel_rfl) (by kernel_rfl) (by kernel_rfl) (fun _ _ _ h => h) (.inl ⟨by rfl, ?_⟩) hS0 ?_
        · rintro w' ⟨hx0, hx1, hx2⟩
          go_simp
        simp only [Act.put]
        refine wpAnyH_take (i := 7) (v := .int .i64 g) rfl (by kernel_rfl) (by kernel_rfl) (by kernel_rfl) (fun _ _ _ h => h) (.inl ⟨by rfl, ?_⟩) hS0 ?_
        · rintro w' ⟨hx0, hx1, hx2⟩
          go_simp
        simp only [Act.put]
        have hsw := hB.size
        have hbE : Below n w E := (hB.trans (hBE.mono hsw)).mono hn
        have hE0 := h'.below hbE
        have hvE := hvt'.below hbE
        have ho1E := ho1.below hBE
        have ho2E := ho2.below hBE
        have hwE : Below w.heap.size w E := hB.trans (hBE.mono hsw)
        clear hBE hbE h' hvt'
        have hlt1 := World.ownsMap.lt ho1
        have hlt2 := World.ownsMap.lt ho2
        refine wpAnyH_all (rs := [4]) (by kernel_rfl) (by simp) (fun q hq => ?_)
        obtain rfl := List.mem_singleton.1 hq
        clear hq
        · refine wpOp_of_wp rfl (by rfl) ?_
          go_simp
          refine (class_any c hg T _ n (pad3 tk) u0 u1 u2 H3k ts _ HTS.out (by omega) w.heap.size hn M1 HB1.out (by omega) D1 hA1 k1 (by omega) E (by omega) hE0 hvE ho1E).mono ?_
          rw [← HXS.out]
          rintro e w5 ⟨rfl, hch5, D5, k5, hk5, own5, hA5⟩
          have hS5 : w5.cell? ⟨wr.heap.size, 0, none⟩ = some (.int .i64 u0) ∧ w5.cell? ⟨wr.heap.size, 1, none⟩ = some (.int .i64 u1) ∧ w5.cell? ⟨wr.heap.size, 2, none⟩ = some (.int .i64 u2) := by
            have hc5 : ∀ o, w5.cell? ⟨wr.heap.size, o, none⟩ = E.cell? ⟨wr.heap.size, o, none⟩ := fun o => World.cell?_of_block (hch5.block _ (by show wr.heap.size < _; omega) (by show wr.heap.size ≠ _; omega))
            rw [hc5, hc5, hc5]; exact hS0
          refine ⟨hS5, ?_⟩
          try simp only [Act.put, List.setIfInBounds_toArray, List.set_cons_zero, List.set_cons_succ]
          have hb5 : Below w.heap.size E w5 := hch5.below hwE.size (fun b hb => by omega)
          have hw5 := hch5.size
          have hE5 := hE0.below (hb5.mono hn)
          have ho25 := ho2E.chg hch5 (by omega)
          refine wpAnyH_all (rs := [8]) (by kernel_rfl) (by simp) (fun q hq => ?_)
          obtain rfl := List.mem_singleton.1 hq
          clear hq
          refine wpOp_of_wp rfl (by rfl) ?_
          go_simp
          refine (grades_any c hg T _ n (pad3 tk) u0 u1 u2 H3k g w5 (by omega) hE5).mono ?_
          rw [← HZ.out]
          rintro e w6 ⟨rfl, hb6⟩
          refine ⟨⟨(hb6.cell (p := ⟨wr.heap.size, 0, none⟩) (by show wr.heap.size < _; omega)).trans hS5.1, (hb6.cell (p := ⟨wr.heap.size, 1, none⟩) (by show wr.heap.size < _; omega)).trans hS5.2.1, (hb6.cell (p := ⟨wr.heap.size, 2, none⟩) (by show wr.heap.size < _; omega)).trans hS5.2.2⟩, ?_⟩
          try simp only [Act.put, List.setIfInBounds_toArray, List.set_cons_zero, List.set_cons_succ]
          have hS6 : w6.cell? ⟨wr.heap.size, 0, none⟩ = some (.int .i64 u0) ∧ w6.cell? ⟨wr.heap.size, 1, none⟩ = some (.int .i64 u1) ∧ w6.cell? ⟨wr.heap.size, 2, none⟩ = some (.int .i64 u2) := ⟨(hb6.cell (p := ⟨wr.heap.size, 0, none⟩) (by show wr.heap.size < _; omega)).trans hS5.1, (hb6.cell (p := ⟨wr.heap.size, 1, none⟩) (by show wr.heap.size < _; omega)).trans hS5.2.1, (hb6.cell (p := ⟨wr.heap.size, 2, none⟩) (by show wr.heap.size < _; omega)).trans hS5.2.2⟩
          have HS6 := hid hS6
          clear hS6
          refine wpAnyH_all (rs := [9]) (by kernel_rfl) (by simp) (fun q hq => ?_)
          obtain rfl := List.mem_singleton.1 hq
          clear hq
          refine wpOp_of_wp rfl (by rfl) ?_
          go_simp
          refine ⟨HS6.out, ?_⟩
          try simp only [Act.put, List.setIfInBounds_toArray, List.set_cons_zero, List.set_cons_succ]
          refine wpAnyH_all (rs := [10]) (by kernel_rfl) (by simp) (fun q hq => ?_)
          obtain rfl := List.mem_singleton.1 hq
          clear hq
          refine wpOp_of_wp rfl (by rfl) ?_
          go_simp
          refine ⟨HS6.out, ?_⟩
          try simp only [Act.put, List.setIfInBounds_toArray, List.set_cons_zero, List.set_cons_succ]
          refine wpAnyH_done (by kernel_rfl) ?_ _
          have own6 := own5.below hb6
          have ho26 := ho25.below hb6
          have hb06 : Below w.heap.size w w6 := (hwE.trans hb5).trans (hb6.mono (by omega))
          have HF := hid (show DecCut w (classS M1 0 xs).2 z (classS M1 0 xs).1 (k1 + 1000) D2 k2 (.int .i64 (classS M1 0 xs).2) (.int .i64 z) w6 from ⟨rfl, rfl, ⟨D5, k5, by omega, own6, hA5⟩, ho26, hb06⟩)
          clear hA5 own6 ho26 hb06 own5 ho25 hE5 hb5 hch5 hE0 hvE ho1E ho2E
          go_wp2_with fail
          go_meet
          exact HF.out
      case rest =>
        obtain ⟨rfl, rfl, ⟨D5, k5, hk5, own5, hA5⟩, own25, hb5⟩ := hcut
        obtain ⟨q1, q2, q3, q4⟩ := classS_bd 50000000 xs M1 0 HB1.out (by omega) (by omega) (by have := HXL.out; omega)
        have HQ2 := hid q2
        clear q2
        have HSTEP := hid (show decS c g ts (T.drop k) M1 M2 = match M2.lookup (classS M1 0 xs).2 with | some old => if old = z then decS c g ts (T.drop (k + 1)) (classS M1 0 xs).1 M2 else false | none => decS c g ts (T.drop (k + 1)) (classS M1 0 xs).1 (M2 ++ [((classS M1 0 xs).2, z)]) by
          rw [HD.out, HXS.out, HZ.out]; rfl)
        have hzb : 0 ≤ z ∧ z ≤ 100000000 := by rw [HZ.out]; exact gradesOf_bd hg _ _
        generalize (classS M1 0 xs).1 = N1 at *
        generalize (classS M1 0 xs).2 = nn at *
        have hq1 : N1.length ≤ (k + 1) * 1000 := by have := HXL.out; omega
        have hgood : goodI nn := wf_int nn (by omega)
        have hwz : (Lit.int .i64 z).wf = true := wf_int z hzb
        have hhas := hA2.has nn hgood
        have HVAL := hid (fun v => hA2.val nn v hgood)
        have HA2 := hid hA2
        have HA5 := hid hA5
        clear hA2 hA5 hA1 ho1 ho2 hB
        cases hl : M2.lookup nn with
        | some old =>
          rw [hl] at hhas
          have HL := hid hl
          clear hl
          by_cases he : old = z
          · have HS := hid (show decS c g ts (T.drop k) M1 M2 = decS c g ts (T.drop (k + 1)) N1 M2 by rw [HSTEP.out, HL.out]; exact if_pos he)
            have hbe : (old == z) = true := by simp [he]
            have hbn : (old != z) = false := by simp [he]
            have HE := hid he
            clear he HSTEP
            go_wp2_with (first
              | (at_lookup; refine wpList_lookup_own_ok_int _ rfl _ _ 205 rfl 3 3 .i64 int_law map2_under int_under (zeroInt _) (w.heap.size + 1) k2 _ rfl own25 _ _ rfl (key_int nn hgood) ?_; intro cv hat hwc; rw [show Maps.has D2 (klI nn) = true from hhas]; have hcv : cv = old := (by have := HVAL.out old HL.out; rw [hat] at this; simpa using this); subst hcv)
              | (at_mapUpdate; refine wpList_mapUpdate_own _ rfl _ _ _ 205 rfl 3 3 int_law map2_under _ (w.heap.size + 1) k2 _ rfl own25 (by unfold maxLen; omega) _ _ _ rfl rfl (key_int nn hgood) _ [] (plainElem_int int_under hwz) ?_; intro w7 own7 hg7))
            have hc7 : Chg (fun x => x = w.heap.size + 1) wc w7 := ⟨hg7.os, hg7.tape, hg7.output, hg7.size, fun b hb hne => hg7.block b hb (fun e => hne (by simpa using e))⟩
            have own57 := own5.chg hc7 (by omega)
            have hb7 : Below w.heap.size w w7 := hb5.trans (hc7.below hb5.size (fun b hb => by omega))
            go_roundw
            case rel => exact ⟨k + 1, N1, M2, D5, _, k5, k2 + 1, by omega, by go_num, hid (by rw [← HS.out]; exact HI.out), HA5.out, own57, HA2.out.put_same klI_inj nn hgood (klI_key _) z (by rw [HL.out, HE.out]), own7, by omega, by omega, by omega, by omega, HQ2, hb7⟩
            case measure => simp [intOf]; omega
          · have HS := hid (show decS c g ts (T.drop k) M1 M2 = false by rw [HSTEP.out, HL.out]; exact if_neg he)
            have hbe : (old == z) = false := by simp [he]
            have hbn : (old != z) = true := by simp [he]
            clear he HSTEP
            go_wp2_with (at_lookup; refine wpList_lookup_own_ok_int _ rfl _ _ 205 rfl 3 3 .i64 int_law map2_under int_under (zeroInt _) (w.heap.size + 1) k2 _ rfl own25 _ _ rfl (key_int nn hgood) ?_; intro cv hat hwc; rw [show Maps.has D2 (klI nn) = true from hhas]; have hcv : cv = old := (by have := HVAL.out old HL.out; rw [hat] at this; simpa using this); subst hcv)
            go_ret
            exact ⟨ret_bool (by rw [← HI.out, HS.out]), hb5⟩
        | none =>
          rw [hl] at hhas
          have HL := hid hl
          clear hl
          have HS := hid (show decS c g ts (T.drop k) M1 M2 = decS c g ts (T.drop (k + 1)) N1 (M2 ++ [(nn, z)]) by rw [HSTEP.out, HL.out])
          clear HSTEP
          go_wp2_with (first
            | (at_lookup; refine wpList_lookup_own_ok_int _ rfl _ _ 205 rfl 3 3 .i64 int_law map2_under int_under (zeroInt _) (w.heap.size + 1) k2 _ rfl own25 _ _ rfl (key_int nn hgood) ?_; intro cv hat hwc; rw [show Maps.has D2 (klI nn) = false from hhas])
            | (at_mapUpdate; refine wpList_mapUpdate_own _ rfl _ _ _ 205 rfl 3 3 int_law map2_under _ (w.heap.size + 1) k2 _ rfl own25 (by unfold maxLen; omega) _ _ _ rfl rfl (key_int nn hgood) _ [] (plainElem_int int_under hwz) ?_; intro w7 own7 hg7))
          have hc7 : Chg (fun x => x = w.heap.size + 1) wc w7 := ⟨hg7.os, hg7.tape, hg7.output, hg7.size, fun b hb hne => hg7.block b hb (fun e => hne (by simpa using e))⟩
          have own57 := own5.chg hc7 (by omega)
          have hb7 : Below w.heap.size w w7 := hb5.trans (hc7.below hb5.size (fun b hb => by omega))
          go_roundw
          case rel => exact ⟨k + 1, N1, M2 ++ [(nn, z)], D5, _, k5, k2 + 1, by omega, by go_num, hid (by rw [← HS.out]; exact HI.out), HA5.out, own57, HA2.out.put_new klI_inj nn hgood (klI_key _) HL.out z, own7, by omega, by omega, by omega, by simp; omega, HQ2, hb7⟩
          case measure => simp [intOf]; omega
    · have HE := hid (show decS c g ts T [] [] = true by rw [← HI.out, List.drop_eq_nil_of_le (by have := HM.out; omega)]; rfl)
      go_wp2
      go_ret
      exact ⟨by rw [HE.out]; rfl, hB⟩
end Go.Proofs.Ytjddcaimjofihaa

namespace Go.Proofs.Ytjddcaimjofihaa
open Go.RowKit Go.Shelf
set_option maxRecDepth 100000

theorem Decide1_any (g : Int) (b : Nat) (w : World) (h : w.cell? ⟨b, 0, none⟩ = some (.int .i64 g)) :
    Calls Try.prog 123 #[.pointer (some ⟨b, 0, none⟩)] w fun e w' => e = .returned (.bool (within g 0 100)) ∧ Below w.heap.size w w' := by
  go_enter Try.func123, Try.ntmps123
  go_wp2_with (go_at_call 86; refine (graded_any _ _).mono ?_; rintro e w' ⟨rfl, rfl⟩)
  go_ret
  exact ⟨rfl, Below.refl _ _⟩

/-- Whether a list of things decides a grade in the truths of a cellar. -/
def decP (c : Ce) (g : Int) (l : List Int) : Bool := decS c g l (truthsOf c []) [] []

theorem Decide2_any (c : Ce) (hg : Good c) (hf : fault c = 0) (g : Int) (b8 b6 b3 n : Nat) (vw vl : Value) (l : List Int) (w : World) (hn : n ≤ w.heap.size) (h8 : w.cell? ⟨b8, 0, none⟩ = some (.func (.func 124) #[] #[])) (h6 : w.cell? ⟨b6, 0, none⟩ = some vw) (h3 : w.cell? ⟨b3, 0, none⟩ = some (.int .i64 g))
    (h : WorkV (Lt n) w vw c (truthsOf c [])) (hl : Ints (Lt w.heap.size) w vl l) (hll : l.length ≤ 1000) (hlb : ∀ x ∈ l, 0 ≤ x ∧ x < c.heaps.length + c.casks.length) :
    Calls Try.prog 125 #[vl, .pointer (some ⟨b8, 0, none⟩), .pointer (some ⟨b6, 0, none⟩), .pointer (some ⟨b3, 0, none⟩)] w fun e w' => e = .returned (.bool (decP c g l)) ∧ Below w.heap.size w w' := by
  have HC := hid (decides_any c hg (truthsOf c []) (truths_fits hg []) (truthsOf_few hf []) vw w.heap.size g l vl hlb hll w (Nat.le_refl _) (h.le hn) hl)
  obtain ⟨la, lc, rfl, -, -⟩ := hl.open1
  obtain ⟨bb, _, _, _, _, rfl, -⟩ := h
  clear hf hg hlb
  go_enter Try.func125, Try.ntmps125
  go_wp2_with (go_at_call 124; refine HC.out.mono ?_; rintro e w' ⟨rfl, hb⟩)
  go_ret
  exact ⟨rfl, hb⟩

theorem Decide_err (c : Ce) (vc : Value) (g : Int) (n : Nat) (w : World) (hn : n ≤ w.heap.size) (h : CeV (Lt n) w vc c) (hsm : Small c) (he : askErr c (within g 0 100) ≠ 0) :
    Calls Try.prog 69 #[vc, .int .i64 g] w (RetInts [] (askErr c (within g 0 100)) w) := by
  have hmf : ∀ (fn : Fn) (first cap : Array Value) (w : World), (Instr.makeFunc fn first cap).run Try.prog w = .ok (.func fn first cap) w := fun _ _ _ _ => rfl
  have h' := h
  obtain ⟨ha, hc, ka, kc, ta, tc, rfl, -, -, -⟩ := h.open
  obtain ⟨W, hW⟩ : ∃ W, W = (w.alloc (.cells #[.slice ha c.heaps.length hc, .slice ka c.casks.length kc, .slice ta c.trials.length tc] 35)).alloc (.cells #[.int .i64 g] 3) := ⟨_, rfl⟩
  have hWs : W.heap.size = w.heap.size + 2 := by rw [hW]; simp
  have hWb : Below w.heap.size w W := by rw [hW]; exact below_alloc2 (Nat.le_refl _) _ _
  have q1 : W.heap[w.heap.size + 1]? = some (.cells #[.int .i64 g] 3 (0, 0)) := by rw [hW]; exact heap_new2 _ _ _
  have HASK := hid (asked_any c (.agg #[.slice ha c.heaps.length hc, .slice ka c.casks.length kc, .slice ta c.trials.length tc]) (within g 0 100) 123 #[.pointer (some ⟨w.heap.size + 1, 0, none⟩)] n W (by omega) (h'.below (hWb.mono hn)) hsm (enters_of Try.func123 (by kernel_rfl) rfl)
    (fun _ w2 hb => Decide1_any g _ w2 ((hb.cell (p := ⟨w.heap.size + 1, 0, none⟩) (by show w.heap.size + 1 < _; omega)).trans (cell_of_row q1 0))))
  have hne : (askErr c (within g 0 100) != 0) = true := by simpa using he
  generalize hea : askErr c (within g 0 100) = ea at *
  have HE := hid hea
  have HNE := hid he
  clear he q1 hea
  go_enter Try.func69, Try.ntmps69
  go_wp2_with (go_at_call 80; rw [← hW]; refine HASK.out.mono ?_; rintro e w2 ⟨hb2, v, rfl, hv0, -⟩; have hvv := hv0 (by rw [HE.out]; exact HNE.out); subst hvv; rw [HE.out])
  go_ret2
  exact ⟨_, rfl, Sl.nil, (below_after hWb hb2 (Nat.le_refl _)).trans (below_alloc1 (by have := hb2.size; omega) _)⟩

theorem push3 (v a b c : Value) : ((#[] : Array Value).push v ++ #[a, b, c]) = #[v, a, b, c] := by simp

set_option maxHeartbeats 1000000 in
theorem Decide_ok (c : Ce) (vc : Value) (g : Int) (n : Nat) (w : World) (hn : n ≤ w.heap.size) (h : CeV (Lt n) w vc c) (hsm : Small c) (he : askErr c (within g 0 100) = 0) (r : List Int) (hr : shortestS (decP c g) (c.heaps.length + c.casks.length) = some r) :
    Calls Try.prog 69 #[vc, .int .i64 g] w (RetInts r 0 w) := by
  have hmf : ∀ (fn : Fn) (first cap : Array Value) (w : World), (Instr.makeFunc fn first cap).run Try.prog w = .ok (.func fn first cap) w := fun _ _ _ _ => rfl
  have h' := h
  obtain ⟨ha, hc, ka, kc, ta, tc, rfl, -, -, -⟩ := h.open
  obtain ⟨hf, hgo, ht0⟩ := askErr_zero he
  have hg := (fault_good hf).1
  obtain ⟨⟨g1, g2, g3, -⟩, -⟩ := hg.facts
  obtain ⟨W, hW⟩ : ∃ W, W = (w.alloc (.cells #[.slice ha c.heaps.length hc, .slice ka c.casks.length kc, .slice ta c.trials.length tc] 35)).alloc (.cells #[.int .i64 g] 3) := ⟨_, rfl⟩
  have hWs : W.heap.size = w.heap.size + 2 := by rw [hW]; simp
  have hWb : Below w.heap.size w W := by rw [hW]; exact below_alloc2 (Nat.le_refl _) _ _
  have q1 : W.heap[w.heap.size + 1]? = some (.cells #[.int .i64 g] 3 (0, 0)) := by rw [hW]; exact heap_new2 _ _ _
  have q0 : W.heap[w.heap.size]? = some (.cells #[.slice ha c.heaps.length hc, .slice ka c.casks.length kc, .slice ta c.trials.length tc] 35 (0, 0)) := by rw [hW, Below.heap_alloc _ _ _ (by simp)]; exact heap_new _ _
  have HASK := hid (asked_any c (.agg #[.slice ha c.heaps.length hc, .slice ka c.casks.length kc, .slice ta c.trials.length tc]) (within g 0 100) 123 #[.pointer (some ⟨w.heap.size + 1, 0, none⟩)] n W (by omega) (h'.below (hWb.mono hn)) hsm (enters_of Try.func123 (by kernel_rfl) rfl)
    (fun _ w2 hb => Decide1_any g _ w2 ((hb.cell (p := ⟨w.heap.size + 1, 0, none⟩) (by show w.heap.size + 1 < _; omega)).trans (cell_of_row q1 0))))
  have HE := hid he
  have HR := hid hr
  have HF := hid hf
  have HG := hid hg
  have Q0 := hid q0
  have Q1 := hid q1
  have hwi : IntKind.i64.wrap ((c.heaps.length : Int) + c.casks.length) = ((c.heaps.length + c.casks.length : Nat) : Int) := by rw [IntWalk.i64_in _ (by omega)]; omega
  have HWI := hid hwi
  clear he q0 q1 hr hf hgo ht0 hwi
  go_enter Try.func69, Try.ntmps69
  go_wp2_with (first
    | (go_at_call 80; rw [← hW]; refine HASK.out.mono ?_; rintro e w2 ⟨hb2, v, rfl, -, hw⟩; replace hw := hw HE.out; rw [HE.out]; have hw' := hw; obtain ⟨bb, _, _, _, _, hvv, -⟩ := hw; subst hvv; have hz2 : W.heap.size ≤ w2.heap.size := hb2.size; have b0 : w2.cell? ⟨w.heap.size, 0, none⟩ = some (.slice ha c.heaps.length hc) := ((hb2.cell (p := ⟨w.heap.size, 0, none⟩) (by show w.heap.size < _; omega)).trans (cell_of_row Q0.out 0)); have b1 : w2.cell? ⟨w.heap.size, 1, none⟩ = some (.slice ka c.casks.length kc) := ((hb2.cell (p := ⟨w.heap.size, 1, none⟩) (by show w.heap.size < _; omega)).trans (cell_of_row Q0.out 1)); have l0 : w.heap.size < w2.heap.size := (by omega)))
  obtain ⟨W4, hW4⟩ : ∃ W4, W4 = (w2.alloc (Obj.cells #[Value.pointer (some ⟨bb, 0, none⟩)] 127)).alloc (Obj.cells #[Value.func (Fn.func 124) #[] #[]] 174) := ⟨_, rfl⟩
  rw [← hW4]
  have hs4 : W4.heap.size = w2.heap.size + 2 := by rw [hW4]; simp
  have hb4 : Below w2.heap.size w2 W4 := by rw [hW4]; exact below_alloc2 (Nat.le_refl _) _ _
  have p1 : W4.heap[w2.heap.size + 1]? = some (.cells #[.func (.func 124) #[] #[]] 174 (0, 0)) := by rw [hW4]; exact heap_new2 _ _ _
  have p0 : W4.heap[w2.heap.size]? = some (.cells #[.pointer (some ⟨bb, 0, none⟩)] 127 (0, 0)) := by rw [hW4, Below.heap_alloc _ _ _ (by simp)]; exact heap_new _ _
  clear hW4
  have hb04 : Below W.heap.size W W4 := below_after hb2 hb4 (Nat.le_refl _)
  have hsh := shortest_any (decP c g) (c.heaps.length + c.casks.length) (by omega) 125 #[] #[.pointer (some ⟨w2.heap.size + 1, 0, none⟩), .pointer (some ⟨w2.heap.size, 0, none⟩), .pointer (some ⟨w.heap.size + 1, 0, none⟩)] r HR.out W4 (fun W' hB l vl hl hll hlb => by
    rw [push3]
    exact Decide2_any c HG.out HF.out g _ _ _ w2.heap.size (.pointer (some ⟨bb, 0, none⟩)) vl l W' (by have := hB.size; omega) ((hB.cell (p := ⟨w2.heap.size + 1, 0, none⟩) (by show w2.heap.size + 1 < _; omega)).trans (cell_of_row p1 0)) ((hB.cell (p := ⟨w2.heap.size, 0, none⟩) (by show w2.heap.size < _; omega)).trans (cell_of_row p0 0))
      ((hB.cell (p := ⟨w.heap.size + 1, 0, none⟩) (by show w.heap.size + 1 < _; omega)).trans ((hb04.cell (p := ⟨w.heap.size + 1, 0, none⟩) (by show w.heap.size + 1 < _; omega)).trans (cell_of_row Q1.out 0))) (hw'.below (hb4.trans (hB.mono (by omega)))) hl hll (fun x hx => by have := hlb x hx; omega)) (enters_of Try.func125 (by kernel_rfl) rfl)
  rw [Int.natCast_add] at hsh
  refine hsh.mono ?_
  rintro e w5 ⟨v5, rfl, hi5, hb5⟩
  have hi5' := hi5
  obtain ⟨a5, c5, rfl, -, -⟩ := hi5.open1
  go_wp2
  go_ret2
  exact ⟨_, rfl, hi5', (below_after hWb hb04 (Nat.le_refl _)).trans (hb5.mono (by omega))⟩
end Go.Proofs.Ytjddcaimjofihaa
