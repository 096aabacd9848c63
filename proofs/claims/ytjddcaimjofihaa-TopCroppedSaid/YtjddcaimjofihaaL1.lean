/- The contract of awake: the document's first examples; no condition. -/
import Derived.Test.YtjddcaimjofihaaL0
import Derived.Test.YtjddcaimjofihaaB8
namespace Go.Proofs.Ytjddcaimjofihaa
open Go.RowKit Go.Shelf
set_option maxRecDepth 100000

def t1 : Tl := ⟨true, 0, ⟨52, 52⟩⟩
def t2 : Tl := ⟨false, 0, ⟨40, 40⟩⟩
theorem two_fault : fault (twoC []) = 0 := by decide +kernel
theorem two_fault1 : fault (twoC [t1]) = 0 := by decide +kernel
theorem two_fault2 : fault (twoC [t1, t2]) = 0 := by decide +kernel
theorem two_listed : listed (twoC []).heaps [41, 62] = true := by decide +kernel
theorem two_play : ((twoC []).casks.map fun k => mean (pad3 [41, 62]) k) = [51, 56] := by decide +kernel
theorem two_ask1 : askErr (twoC [t1]) true = 0 := by decide +kernel
theorem two_heaps : heapB (twoC [t1]) = [⟨41, 42⟩, ⟨62, 63⟩] := by decide +kernel
theorem two_casks : caskB (twoC [t1]) = [⟨52, 52⟩, ⟨57, 57⟩] := by decide +kernel
theorem two_askG : askErr (twoC []) (gradedOk (twoC []) 0 51) = 0 := by decide +kernel
theorem two_graded : gradedV (twoC []) 0 51 = 3 := by decide +kernel
theorem two_askD : askErr (twoC []) (within 56 0 100) = 0 := by decide +kernel
theorem two_decide : shortestS (decP (twoC []) 56) 4 = some [3] := by decide +kernel
theorem two_askB : askErr (twoC []) (blendOk (twoC []) [10, 10] 12 55) = 0 := by decide +kernel
theorem two_blend : pickB (okB (truthsOf (twoC []) []) 55) [10, 10] 12 [] = some [2, 10] := by decide +kernel
theorem two_askS : askErr (twoC []) (blendOk (twoC []) [10, 10] 12 57) = 0 := by decide +kernel
theorem two_short : pickB (okB (truthsOf (twoC []) []) 57) [10, 10] 12 [] = none := by decide +kernel
theorem two_first : firstOf (twoC [t1, t2]) = some 1 := by decide +kernel
theorem two_leave : leaveOf (twoC [t1, t2]) = some [0] := by decide +kernel
theorem twoC_small (ts : List Tl) (h : ts.length ≤ 1000) : Small (twoC ts) := ⟨by simp [twoC], by simp [twoC], h, fun l hl => by simp [twoC] at hl; rcases hl with rfl | rfl <;> simp⟩

theorem ints_lit (w : World) (l : List Int) (cs : Array Value) (t : TypeId) (he : cs.toList = l.flatMap encI) : Ints (Lt (w.alloc (.cells cs t)).heap.size) (w.alloc (.cells cs t)) (.slice (some ⟨w.heap.size, 0, none⟩) l.length l.length) l :=
  Sl.of_row (heap_new w _) (by show _ < _; simp) he (fun _ => rfl) (Nat.le_refl _)
theorem tls_lit (w : World) (l : List Tl) (cs : Array Value) (t : TypeId) (he : cs.toList = l.flatMap fun t : Tl => [Value.bool t.cask, Value.int .i64 t.num, Value.int .i64 t.s.lo, Value.int .i64 t.s.hi]) : Tls (Lt (w.alloc (.cells cs t)).heap.size) (w.alloc (.cells cs t)) (.slice (some ⟨w.heap.size, 0, none⟩) l.length l.length) l :=
  Sl.of_row (heap_new w _) (by show _ < _; simp) he (fun _ => rfl) (Nat.le_refl _)

/-- Only number i may come up. -/
theorem wpAnyH_only {P : Program} {md : Region.Mode} {ops : Array Oper} {Q : Exit → Act → World → Prop} {S : World → Prop} {i : Nat} {oi : Oper} {fuel : Nat} {listed : Array Bool} {a : Act} {w : World} (hi : ops[i]? = some oi) (hr : Region.ready md ops listed = [i]) (hw : Region.wanted oi (yielded ops a.tmps) = true)
    (h : oi.wp P a w (fun a' w' => S w' ∧ wpAnyH P md ops Q S fuel (listed.setIfInBounds i true) a' w') Q) : wpAnyH P md ops Q S (fuel + 1) listed a w := by
  refine wpAnyH_all hr (by simp) fun q hq => ?_
  obtain rfl := List.mem_singleton.1 hq
  exact wpOp_of_wp hi hw h

set_option maxHeartbeats 4000000 in
theorem awake_any (w : World) : Calls Try.prog 20 #[] w fun e w' => e = .returned (.bool true) ∧ Below w.heap.size w w' := by
  go_enter Try.func20, Try.ntmps20
  go_wp2_with fail
  refine (two_any [] _ w.heap.size _ (Nat.le_refl _) Sl.nil).mono ?_
  rintro e w1 ⟨v1, rfl, hc1, hB1⟩
  have hs1 := hB1.size
  obtain ⟨_, _, _, _, _, _, rfl, -⟩ := id hc1.open
  go_wp2_with fail
  have hi1 := ints_lit w1 [41, 62] #[.int .i64 41, .int .i64 62] 3 rfl
  have hcA := (hc1.below (below_alloc1 (Nat.le_refl _) (.cells #[.int .i64 41, .int .i64 62] 3))).le (show w1.heap.size ≤ (w1.alloc (.cells #[.int .i64 41, .int .i64 62] 3)).heap.size by simp)
  refine (play_ok (twoC []) _ _ [41, 62] _ _ (Nat.le_refl _) hcA hi1 (by simp) two_fault two_listed).mono ?_
  rw [two_play]
  rintro e w2 ⟨v2, rfl, hi2, hb2⟩
  have hB2 := below_after (below_after hB1 (below_alloc1 (Nat.le_refl _) (.cells #[.int .i64 41, .int .i64 62] 3)) (Nat.le_refl _)) hb2 (Nat.le_refl _)
  clear hc1 hB1 hi1 hcA hb2 hs1
  obtain ⟨a2, c2, rfl, -, -⟩ := id hi2.open1
  have HI2 := hid hi2
  have HB2 := hid hB2
  clear hi2 hB2
  -- WALK
  go_wp2_with fail
  refine (first_any _).mono ?_
  rintro e w3 ⟨rfl, hb3⟩
  have HB3 := hid (below_after HB2.out hb3 (Nat.le_refl _))
  have HI2 := hid ((HI2.out.below hb3).le hb3.size)
  go_wp2_with fail
  have hts4 := tls_lit w3 [t1] #[.bool true, .int .i64 0, .int .i64 52, .int .i64 52] 125 rfl
  have hba4 := below_alloc1 (Nat.le_refl w3.heap.size) (.cells #[.bool true, .int .i64 0, .int .i64 52, .int .i64 52] 125)
  refine (two_any [t1] _ _ _ (Nat.le_refl _) hts4).mono ?_
  rintro e w4 ⟨v4, rfl, hc4, hbb4⟩
  have hb4 := below_after hba4 hbb4 (Nat.le_refl _)
  clear hts4
  have HB4 := hid (below_after HB3.out hb4 (Nat.le_refl _))
  have HI2 := hid ((HI2.out.below hb4).le hb4.size)
  obtain ⟨_, _, _, _, _, _, rfl, -⟩ := id hc4.open
  go_wp2_with fail
  refine (Bounds_ok (twoC [t1]) _ _ _ (Nat.le_refl _) hc4 (twoC_small _ (by decide)) two_ask1).mono ?_
  rw [two_heaps, two_casks]
  rintro e w5 ⟨v5, u5, rfl, hi5, hj5, hb5⟩
  have HB5 := hid (below_after HB4.out hb5 (Nat.le_refl _))
  have HI2 := hid ((HI2.out.below hb5).le hb5.size)
  obtain ⟨a5, c5, hv5, -, -⟩ := id (show Rgs _ _ _ _ from hi5).open2
  replace hv5 : v5 = .slice a5 2 c5 := hv5
  subst hv5
  obtain ⟨b5, d5, hu5, -, -⟩ := id (show Rgs _ _ _ _ from hj5).open2
  replace hu5 : u5 = .slice b5 2 d5 := hu5
  subst hu5
  have HRa := hid hi5
  have HRb := hid hj5
  clear hi5 hj5 hc4
  go_wp2_with fail
  refine (two_any [] _ w5.heap.size _ (Nat.le_refl _) Sl.nil).mono ?_
  rintro e w6 ⟨v6, rfl, hc6, hb6⟩
  have HB6 := hid (below_after HB5.out hb6 (Nat.le_refl _))
  have HI2 := hid ((HI2.out.below hb6).le hb6.size)
  have HRa := hid ((HRa.out.below hb6).le hb6.size)
  have HRb := hid ((HRb.out.below hb6).le hb6.size)
  obtain ⟨_, _, _, _, _, _, rfl, -⟩ := id hc6.open
  go_wp2_with fail
  refine (Graded_any (twoC []) _ 0 51 _ _ (Nat.le_refl _) hc6 (twoC_small _ (by decide))).mono ?_
  rw [two_askG, two_graded, if_pos rfl]
  rintro e w7 ⟨rfl, hb7⟩
  have HB7 := hid (below_after HB6.out hb7 (Nat.le_refl _))
  have HI2 := hid ((HI2.out.below hb7).le hb7.size)
  have HRa := hid ((HRa.out.below hb7).le hb7.size)
  have HRb := hid ((HRb.out.below hb7).le hb7.size)
  clear hc6
  go_wp2_with fail
  refine (two_any [] _ w7.heap.size _ (Nat.le_refl _) Sl.nil).mono ?_
  rintro e w8 ⟨v8, rfl, hc8, hb8⟩
  have HB8 := hid (below_after HB7.out hb8 (Nat.le_refl _))
  have HI2 := hid ((HI2.out.below hb8).le hb8.size)
  have HRa := hid ((HRa.out.below hb8).le hb8.size)
  have HRb := hid ((HRb.out.below hb8).le hb8.size)
  obtain ⟨_, _, _, _, _, _, rfl, -⟩ := id hc8.open
  go_wp2_with fail
  refine (Decide_ok (twoC []) _ 56 _ _ (Nat.le_refl _) hc8 (twoC_small _ (by decide)) two_askD [3] two_decide).mono ?_
  rintro e w9 ⟨v9, rfl, hi9, hb9⟩
  have HB9 := hid (below_after HB8.out hb9 (Nat.le_refl _))
  have HI2 := hid ((HI2.out.below hb9).le hb9.size)
  have HRa := hid ((HRa.out.below hb9).le hb9.size)
  have HRb := hid ((HRb.out.below hb9).le hb9.size)
  obtain ⟨a9, c9, hv9, -, -⟩ := id hi9.open1
  replace hv9 : v9 = .slice a9 1 c9 := hv9
  subst hv9
  have HI9 := hid hi9
  clear hi9 hc8
  go_wp2_with fail
  refine (two_any [] _ w9.heap.size _ (Nat.le_refl _) Sl.nil).mono ?_
  rintro e w10 ⟨v10, rfl, hc10, hb10⟩
  have HB10 := hid (below_after HB9.out hb10 (Nat.le_refl _))
  have HI2 := hid ((HI2.out.below hb10).le hb10.size)
  have HRa := hid ((HRa.out.below hb10).le hb10.size)
  have HRb := hid ((HRb.out.below hb10).le hb10.size)
  have HI9 := hid ((HI9.out.below hb10).le hb10.size)
  obtain ⟨_, _, _, _, _, _, rfl, -⟩ := id hc10.open
  go_wp2_with fail
  have hst := ints_lit w10 [10, 10] #[.int .i64 10, .int .i64 10] 3 rfl
  have hba := below_alloc1 (Nat.le_refl w10.heap.size) (.cells #[.int .i64 10, .int .i64 10] 3)
  have hcA := (hc10.below hba).le hba.size
  refine (Blend_go (twoC []) _ [10, 10] _ 12 55 _ _ (Nat.le_refl _) hcA (twoC_small _ (by decide)) hst (by simp) two_askB).mono ?_
  rw [two_blend]
  rintro e w11 ⟨v11, rfl, hi11, hbb11⟩
  have hb11 := below_after hba hbb11 (Nat.le_refl _)
  have HB11 := hid (below_after HB10.out hb11 (Nat.le_refl _))
  have HI2 := hid ((HI2.out.below hb11).le hb11.size)
  have HRa := hid ((HRa.out.below hb11).le hb11.size)
  have HRb := hid ((HRb.out.below hb11).le hb11.size)
  have HI9 := hid ((HI9.out.below hb11).le hb11.size)
  replace hi11 : Ints _ _ v11 [2, 10] := hi11
  obtain ⟨a11, c11, hv11, -, -⟩ := id hi11.open1
  replace hv11 : v11 = .slice a11 2 c11 := hv11
  subst hv11
  have HI11 := hid hi11
  clear hi11 hc10 hcA hst hba hbb11
  simp only [foundErr, Option.isSome_some, if_true]
  go_wp2_with fail
  refine (two_any [] _ w11.heap.size _ (Nat.le_refl _) Sl.nil).mono ?_
  rintro e w12 ⟨v12, rfl, hc12, hb12⟩
  have HB12 := hid (below_after HB11.out hb12 (Nat.le_refl _))
  have HI2 := hid ((HI2.out.below hb12).le hb12.size)
  have HRa := hid ((HRa.out.below hb12).le hb12.size)
  have HRb := hid ((HRb.out.below hb12).le hb12.size)
  have HI9 := hid ((HI9.out.below hb12).le hb12.size)
  have HI11 := hid ((HI11.out.below hb12).le hb12.size)
  obtain ⟨_, _, _, _, _, _, rfl, -⟩ := id hc12.open
  go_wp2_with fail
  have hst := ints_lit w12 [10, 10] #[.int .i64 10, .int .i64 10] 3 rfl
  have hba := below_alloc1 (Nat.le_refl w12.heap.size) (.cells #[.int .i64 10, .int .i64 10] 3)
  have hcA := (hc12.below hba).le hba.size
  refine (Blend_go (twoC []) _ [10, 10] _ 12 57 _ _ (Nat.le_refl _) hcA (twoC_small _ (by decide)) hst (by simp) two_askS).mono ?_
  rw [two_short]
  rintro e w13 ⟨v13, rfl, hi13, hbb13⟩
  have hb13 := below_after hba hbb13 (Nat.le_refl _)
  have HB13 := hid (below_after HB12.out hb13 (Nat.le_refl _))
  have HI2 := hid ((HI2.out.below hb13).le hb13.size)
  have HRa := hid ((HRa.out.below hb13).le hb13.size)
  have HRb := hid ((HRb.out.below hb13).le hb13.size)
  have HI9 := hid ((HI9.out.below hb13).le hb13.size)
  have HI11 := hid ((HI11.out.below hb13).le hb13.size)
  replace hi13 : Ints _ _ v13 [] := hi13
  obtain ⟨a13, c13, hv13, -, -⟩ := id hi13.open1
  replace hv13 : v13 = .slice a13 0 c13 := hv13
  subst hv13
  clear hi13 hc12 hcA hst hba hbb13
  simp only [foundErr, Option.isSome_none, Bool.false_eq_true, if_false]
  go_wp2_with fail
  refine (first_any _).mono ?_
  rintro e w14 ⟨rfl, hb14⟩
  have HB14 := hid (below_after HB13.out hb14 (Nat.le_refl _))
  have HI2 := hid ((HI2.out.below hb14).le hb14.size)
  have HRa := hid ((HRa.out.below hb14).le hb14.size)
  have HRb := hid ((HRb.out.below hb14).le hb14.size)
  have HI9 := hid ((HI9.out.below hb14).le hb14.size)
  have HI11 := hid ((HI11.out.below hb14).le hb14.size)
  go_wp2_with fail
  refine (wrong_any _).mono ?_
  rintro e w15 ⟨rfl, hb15⟩
  have HB15 := hid (below_after HB14.out hb15 (Nat.le_refl _))
  have HI2 := hid ((HI2.out.below hb15).le hb15.size)
  have HRa := hid ((HRa.out.below hb15).le hb15.size)
  have HRb := hid ((HRb.out.below hb15).le hb15.size)
  have HI9 := hid ((HI9.out.below hb15).le hb15.size)
  have HI11 := hid ((HI11.out.below hb15).le hb15.size)
  go_wp2_with fail
  have hts16 := tls_lit w15 [t1, t2] #[.bool true, .int .i64 0, .int .i64 52, .int .i64 52, .bool false, .int .i64 0, .int .i64 40, .int .i64 40] 125 rfl
  have hba16 := below_alloc1 (Nat.le_refl w15.heap.size) (.cells #[.bool true, .int .i64 0, .int .i64 52, .int .i64 52, .bool false, .int .i64 0, .int .i64 40, .int .i64 40] 125)
  refine (two_any [t1, t2] _ _ _ (Nat.le_refl _) hts16).mono ?_
  rintro e w16 ⟨v16, rfl, hc16, hbb16⟩
  have hb16 := below_after hba16 hbb16 (Nat.le_refl _)
  clear hts16
  have HB16 := hid (below_after HB15.out hb16 (Nat.le_refl _))
  have HI2 := hid ((HI2.out.below hb16).le hb16.size)
  have HRa := hid ((HRa.out.below hb16).le hb16.size)
  have HRb := hid ((HRb.out.below hb16).le hb16.size)
  have HI9 := hid ((HI9.out.below hb16).le hb16.size)
  have HI11 := hid ((HI11.out.below hb16).le hb16.size)
  obtain ⟨_, _, _, _, _, _, rfl, -⟩ := id hc16.open
  go_wp2_with fail
  refine (First_ok (twoC [t1, t2]) _ _ _ (Nat.le_refl _) hc16 two_fault2).mono ?_
  rw [two_first]
  rintro e w17 ⟨rfl, hb17⟩
  have HB17 := hid (below_after HB16.out hb17 (Nat.le_refl _))
  have HI2 := hid ((HI2.out.below hb17).le hb17.size)
  have HRa := hid ((HRa.out.below hb17).le hb17.size)
  have HRb := hid ((HRb.out.below hb17).le hb17.size)
  have HI9 := hid ((HI9.out.below hb17).le hb17.size)
  have HI11 := hid ((HI11.out.below hb17).le hb17.size)
  clear hc16
  simp only [firstN, firstE, Option.isSome_some, if_true]
  go_wp2_with fail
  refine (first_any _).mono ?_
  rintro e w18 ⟨rfl, hb18⟩
  have HB18 := hid (below_after HB17.out hb18 (Nat.le_refl _))
  have HI2 := hid ((HI2.out.below hb18).le hb18.size)
  have HRa := hid ((HRa.out.below hb18).le hb18.size)
  have HRb := hid ((HRb.out.below hb18).le hb18.size)
  have HI9 := hid ((HI9.out.below hb18).le hb18.size)
  have HI11 := hid ((HI11.out.below hb18).le hb18.size)
  go_wp2_with fail
  refine (wrong_any _).mono ?_
  rintro e w19 ⟨rfl, hb19⟩
  have HB19 := hid (below_after HB18.out hb19 (Nat.le_refl _))
  have HI2 := hid ((HI2.out.below hb19).le hb19.size)
  have HRa := hid ((HRa.out.below hb19).le hb19.size)
  have HRb := hid ((HRb.out.below hb19).le hb19.size)
  have HI9 := hid ((HI9.out.below hb19).le hb19.size)
  have HI11 := hid ((HI11.out.below hb19).le hb19.size)
  go_wp2_with fail
  have hts20 := tls_lit w19 [t1, t2] #[.bool true, .int .i64 0, .int .i64 52, .int .i64 52, .bool false, .int .i64 0, .int .i64 40, .int .i64 40] 125 rfl
  have hba20 := below_alloc1 (Nat.le_refl w19.heap.size) (.cells #[.bool true, .int .i64 0, .int .i64 52, .int .i64 52, .bool false, .int .i64 0, .int .i64 40, .int .i64 40] 125)
  refine (two_any [t1, t2] _ _ _ (Nat.le_refl _) hts20).mono ?_
  rintro e w20 ⟨v20, rfl, hc20, hbb20⟩
  have hb20 := below_after hba20 hbb20 (Nat.le_refl _)
  clear hts20
  have HB20 := hid (below_after HB19.out hb20 (Nat.le_refl _))
  have HI2 := hid ((HI2.out.below hb20).le hb20.size)
  have HRa := hid ((HRa.out.below hb20).le hb20.size)
  have HRb := hid ((HRb.out.below hb20).le hb20.size)
  have HI9 := hid ((HI9.out.below hb20).le hb20.size)
  have HI11 := hid ((HI11.out.below hb20).le hb20.size)
  obtain ⟨_, _, _, _, _, _, rfl, -⟩ := id hc20.open
  go_wp2_with fail
  refine (Leave_ok (twoC [t1, t2]) _ _ _ (Nat.le_refl _) hc20 two_fault2 [0] two_leave).mono ?_
  rintro e w21 ⟨v21, rfl, hi21, hb21⟩
  have HB21 := hid (below_after HB20.out hb21 (Nat.le_refl _))
  have HI2 := hid ((HI2.out.below hb21).le hb21.size)
  have HRa := hid ((HRa.out.below hb21).le hb21.size)
  have HRb := hid ((HRb.out.below hb21).le hb21.size)
  have HI9 := hid ((HI9.out.below hb21).le hb21.size)
  have HI11 := hid ((HI11.out.below hb21).le hb21.size)
  obtain ⟨a21, c21, hv21, -, -⟩ := id hi21.open1
  replace hv21 : v21 = .slice a21 1 c21 := hv21
  subst hv21
  have HI21 := hid hi21
  clear hi21 hc20
  clear hb3 hb4 hb5 hb6 hb7 hb8 hb9 hb10 hb11 hb12 hb13 hb14 hb15 hb16 hb17 hb18 hb19 hb20 hb21
  -- REGION
  obtain ⟨_, _, he, -, hxo⟩ := (show Rgs _ _ _ _ from HRa.out).open2
  cases he
  obtain ⟨_, _, he, -, hyo⟩ := (show Rgs _ _ _ _ from HRb.out).open2
  cases he
  rcases hxo with hnil | ⟨xb, xo, rfl, xl, xc⟩
  · cases hnil
  obtain ⟨x0, x1⟩ := xc 0 (by decide)
  obtain ⟨x2, x3⟩ := xc 1 (by decide)
  clear xc
  have xl' : xb < w21.heap.size := xl
  rcases hyo with hnil | ⟨yb, yo, rfl, yl, yc⟩
  · cases hnil
  obtain ⟨y0, y1⟩ := yc 0 (by decide)
  obtain ⟨y2, y3⟩ := yc 1 (by decide)
  clear yc
  have yl' : yb < w21.heap.size := yl
  simp only [List.getElem_cons_zero, List.getElem_cons_succ, Nat.zero_mul, Nat.one_mul, Nat.add_zero] at x0 x1 x2 x3 y0 y1 y2 y3
  go_wp2_with fail
  obtain ⟨E, hE⟩ : ∃ E, E = w21.drew := ⟨_, rfl⟩
  refine wp_region_held (S := fun w' => Below w21.heap.size w21 w') (by kernel_rfl) ?_
  change wpAnyH _ _ _ _ _ _ _ _ w21.drew
  rw [← hE]
  have hb0 : Below w21.heap.size w21 E := by rw [hE]; exact (Below.refl _ _).drew
  clear hE xl yl
  refine wpAnyH_take (i := 0) (v := .int .i64 0) rfl (by as_aux_lemma => kernel_rfl) (by as_aux_lemma => kernel_rfl) (by as_aux_lemma => kernel_rfl) (fun _ _ _ h => h) (.inl ⟨by as_aux_lemma => kernel_rfl, ?_⟩) hb0 ?_
  · intro w' hw'
    go_simp
  simp only [Act.put, List.setIfInBounds_toArray]
  refine wpAnyH_take (i := 1) (v := .bool true) rfl (by as_aux_lemma => kernel_rfl) (by as_aux_lemma => kernel_rfl) (by as_aux_lemma => kernel_rfl) (fun _ _ _ h => h) (.inl ⟨by as_aux_lemma => kernel_rfl, ?_⟩) hb0 ?_
  · intro w' hw'
    go_simp
  simp only [Act.put]
  refine wpAnyH_take (i := 2) (v := .bool true) rfl (by as_aux_lemma => kernel_rfl) (by as_aux_lemma => kernel_rfl) (by as_aux_lemma => kernel_rfl) (fun _ _ _ h => h) (.inl ⟨by as_aux_lemma => kernel_rfl, ?_⟩) hb0 ?_
  · intro w' hw'
    go_simp
  simp only [Act.put]
  refine wpAnyH_take (i := 3) (v := .slice a2 2 c2) rfl (by as_aux_lemma => kernel_rfl) (by as_aux_lemma => kernel_rfl) (by as_aux_lemma => kernel_rfl) (fun _ _ _ h => h) (.inl ⟨by as_aux_lemma => kernel_rfl, ?_⟩) hb0 ?_
  · intro w' hw'
    go_simp
  simp only [Act.put]
  refine wpAnyH_only (i := 4) rfl (by as_aux_lemma => kernel_rfl) (by as_aux_lemma => kernel_rfl) ?_
  go_simp
  have hst1 := ints_lit E [51, 56] #[.int .i64 51, .int .i64 56] 3 rfl
  have hba1 := below_alloc1 (Nat.le_refl E.heap.size) (.cells #[.int .i64 51, .int .i64 56] 3)
  have hbn1 := hb0.trans (hba1.mono hb0.size)
  refine ⟨hbn1, ?_⟩
  try simp only [Act.put, List.setIfInBounds_toArray, List.set_cons_zero, List.set_cons_succ]
  refine wpAnyH_only (i := 5) rfl (by as_aux_lemma => kernel_rfl) (by as_aux_lemma => kernel_rfl) ?_
  go_simp
  refine (same_any [51, 56] [51, 56] _ _ _ _ ((HI2.out.below hbn1).le hbn1.size) hst1 (Nat.le_refl _) (by decide) (by decide)).mono ?_
  rw [show sameB [51, 56] [51, 56] = true from rfl]
  rintro e z2 ⟨rfl, hbz2⟩
  have hbn2 := hbn1.trans (hbz2.mono hbn1.size)
  clear hst1 hba1
  refine ⟨hbn2, ?_⟩
  try simp only [Act.put, List.setIfInBounds_toArray, List.set_cons_zero, List.set_cons_succ]
  clear hbz2
  refine wpAnyH_take (i := 6) (v := .bool true) rfl (by as_aux_lemma => kernel_rfl) (by as_aux_lemma => kernel_rfl) (by as_aux_lemma => kernel_rfl) (fun _ _ _ h => h) (.inl ⟨by as_aux_lemma => kernel_rfl, ?_⟩) hbn2 ?_
  · intro w' hw'
    go_simp
  simp only [Act.put, List.setIfInBounds_toArray]
  refine wpAnyH_take (i := 7) (v := .bool true) rfl (by as_aux_lemma => kernel_rfl) (by as_aux_lemma => kernel_rfl) (by as_aux_lemma => kernel_rfl) (fun _ _ _ h => h) (.inl ⟨by as_aux_lemma => kernel_rfl, ?_⟩) hbn2 ?_
  · intro w' hw'
    go_simp
  simp only [Act.put]
  refine wpAnyH_take (i := 8) (v := .int .i64 0) rfl (by as_aux_lemma => kernel_rfl) (by as_aux_lemma => kernel_rfl) (by as_aux_lemma => kernel_rfl) (fun _ _ _ h => h) (.inl ⟨by as_aux_lemma => kernel_rfl, ?_⟩) hbn2 ?_
  · intro w' hw'
    go_simp
  simp only [Act.put]
  refine wpAnyH_take (i := 9) (v := .bool true) rfl (by as_aux_lemma => kernel_rfl) (by as_aux_lemma => kernel_rfl) (by as_aux_lemma => kernel_rfl) (fun _ _ _ h => h) (.inl ⟨by as_aux_lemma => kernel_rfl, ?_⟩) hbn2 ?_
  · intro w' hw'
    go_simp
  simp only [Act.put]
  refine wpAnyH_take (i := 10) (v := .bool true) rfl (by as_aux_lemma => kernel_rfl) (by as_aux_lemma => kernel_rfl) (by as_aux_lemma => kernel_rfl) (fun _ _ _ h => h) (.inl ⟨by as_aux_lemma => kernel_rfl, ?_⟩) hbn2 ?_
  · intro w' hw'
    go_simp
  simp only [Act.put]
  refine wpAnyH_take (i := 11) (v := .bool true) rfl (by as_aux_lemma => kernel_rfl) (by as_aux_lemma => kernel_rfl) (by as_aux_lemma => kernel_rfl) (fun _ _ _ h => h) (.inl ⟨by as_aux_lemma => kernel_rfl, ?_⟩) hbn2 ?_
  · intro w' hw'
    go_simp
  simp only [Act.put]
  refine wpAnyH_take (i := 12) (v := .slice (some ⟨xb, xo, none⟩) 2 c5) rfl (by as_aux_lemma => kernel_rfl) (by as_aux_lemma => kernel_rfl) (by as_aux_lemma => kernel_rfl) (fun _ _ _ h => h) (.inl ⟨by as_aux_lemma => kernel_rfl, ?_⟩) hbn2 ?_
  · intro w' hw'
    go_simp
  simp only [Act.put]
  refine wpAnyH_take (i := 13) (v := .int .i64 2) rfl (by as_aux_lemma => kernel_rfl) (by as_aux_lemma => kernel_rfl) (by as_aux_lemma => kernel_rfl) (fun _ _ _ h => h) (.inl ⟨by as_aux_lemma => kernel_rfl, ?_⟩) hbn2 ?_
  · intro w' hw'
    go_simp
  simp only [Act.put]
  refine wpAnyH_take (i := 14) (v := .bool true) rfl (by as_aux_lemma => kernel_rfl) (by as_aux_lemma => kernel_rfl) (by as_aux_lemma => kernel_rfl) (fun _ _ _ h => h) (.inl ⟨by as_aux_lemma => kernel_rfl, ?_⟩) hbn2 ?_
  · intro w' hw'
    go_simp
  simp only [Act.put]
  refine wpAnyH_take (i := 15) (v := .bool true) rfl (by as_aux_lemma => kernel_rfl) (by as_aux_lemma => kernel_rfl) (by as_aux_lemma => kernel_rfl) (fun _ _ _ h => h) (.inl ⟨by as_aux_lemma => kernel_rfl, ?_⟩) hbn2 ?_
  · intro w' hw'
    go_simp
  simp only [Act.put]
  refine wpAnyH_take (i := 16) (v := .bool true) rfl (by as_aux_lemma => kernel_rfl) (by as_aux_lemma => kernel_rfl) (by as_aux_lemma => kernel_rfl) (fun _ _ _ h => h) (.inl ⟨by as_aux_lemma => kernel_rfl, ?_⟩) hbn2 ?_
  · intro w' hw'
    go_simp
  simp only [Act.put]
  refine wpAnyH_take (i := 17) (v := .slice (some ⟨xb, xo, none⟩) 2 c5) rfl (by as_aux_lemma => kernel_rfl) (by as_aux_lemma => kernel_rfl) (by as_aux_lemma => kernel_rfl) (fun _ _ _ h => h) (.inl ⟨by as_aux_lemma => kernel_rfl, ?_⟩) hbn2 ?_
  · intro w' hw'
    go_simp
  simp only [Act.put]
  refine wpAnyH_take (i := 18) (v := .pointer (some ⟨xb, xo, none⟩)) rfl (by as_aux_lemma => kernel_rfl) (by as_aux_lemma => kernel_rfl) (by as_aux_lemma => kernel_rfl) (fun _ _ _ h => h) (.inl ⟨by as_aux_lemma => kernel_rfl, ?_⟩) hbn2 ?_
  · intro w' hw'
    go_simp
  simp only [Act.put]
  refine wpAnyH_take (i := 19) (v := .agg #[.int .i64 41, .int .i64 42]) rfl (by as_aux_lemma => kernel_rfl) (by as_aux_lemma => kernel_rfl) (by as_aux_lemma => kernel_rfl) (fun _ _ _ h => h) (.inl ⟨by as_aux_lemma => kernel_rfl, ?_⟩) hbn2 ?_
  · intro w' hw'
    have hcc := (bcell hw').1
    go_simp
  simp only [Act.put]
  refine wpAnyH_only (i := 20) rfl (by as_aux_lemma => kernel_rfl) (by as_aux_lemma => kernel_rfl) ?_
  go_simp
  refine (between_any _ _ _).mono ?_
  rintro e z3 ⟨rfl, hbz3⟩
  have hbn3 := hbn2.trans (hbz3.mono hbn2.size)
  refine ⟨hbn3, ?_⟩
  try simp only [Act.put, List.setIfInBounds_toArray, List.set_cons_zero, List.set_cons_succ]
  clear hbz3
  refine wpAnyH_take (i := 21) (v := .bool true) rfl (by as_aux_lemma => kernel_rfl) (by as_aux_lemma => kernel_rfl) (by as_aux_lemma => kernel_rfl) (fun _ _ _ h => h) (.inl ⟨by as_aux_lemma => kernel_rfl, ?_⟩) hbn3 ?_
  · intro w' hw'
    go_simp
  simp only [Act.put, List.setIfInBounds_toArray]
  refine wpAnyH_take (i := 22) (v := .bool true) rfl (by as_aux_lemma => kernel_rfl) (by as_aux_lemma => kernel_rfl) (by as_aux_lemma => kernel_rfl) (fun _ _ _ h => h) (.inl ⟨by as_aux_lemma => kernel_rfl, ?_⟩) hbn3 ?_
  · intro w' hw'
    go_simp
  simp only [Act.put]
  refine wpAnyH_take (i := 23) (v := .bool true) rfl (by as_aux_lemma => kernel_rfl) (by as_aux_lemma => kernel_rfl) (by as_aux_lemma => kernel_rfl) (fun _ _ _ h => h) (.inl ⟨by as_aux_lemma => kernel_rfl, ?_⟩) hbn3 ?_
  · intro w' hw'
    go_simp
  simp only [Act.put]
  refine wpAnyH_take (i := 24) (v := .slice (some ⟨xb, xo, none⟩) 2 c5) rfl (by as_aux_lemma => kernel_rfl) (by as_aux_lemma => kernel_rfl) (by as_aux_lemma => kernel_rfl) (fun _ _ _ h => h) (.inl ⟨by as_aux_lemma => kernel_rfl, ?_⟩) hbn3 ?_
  · intro w' hw'
    go_simp
  simp only [Act.put]
  refine wpAnyH_take (i := 25) (v := .pointer (some ⟨xb, xo + 2, none⟩)) rfl (by as_aux_lemma => kernel_rfl) (by as_aux_lemma => kernel_rfl) (by as_aux_lemma => kernel_rfl) (fun _ _ _ h => h) (.inl ⟨by as_aux_lemma => kernel_rfl, ?_⟩) hbn3 ?_
  · intro w' hw'
    go_simp
  simp only [Act.put]
  refine wpAnyH_take (i := 26) (v := .agg #[.int .i64 62, .int .i64 63]) rfl (by as_aux_lemma => kernel_rfl) (by as_aux_lemma => kernel_rfl) (by as_aux_lemma => kernel_rfl) (fun _ _ _ h => h) (.inl ⟨by as_aux_lemma => kernel_rfl, ?_⟩) hbn3 ?_
  · intro w' hw'
    have hcc := (bcell hw').1
    go_simp
  simp only [Act.put]
  refine wpAnyH_only (i := 27) rfl (by as_aux_lemma => kernel_rfl) (by as_aux_lemma => kernel_rfl) ?_
  go_simp
  refine (between_any _ _ _).mono ?_
  rintro e z4 ⟨rfl, hbz4⟩
  have hbn4 := hbn3.trans (hbz4.mono hbn3.size)
  refine ⟨hbn4, ?_⟩
  try simp only [Act.put, List.setIfInBounds_toArray, List.set_cons_zero, List.set_cons_succ]
  clear hbz4
  refine wpAnyH_take (i := 28) (v := .bool true) rfl (by as_aux_lemma => kernel_rfl) (by as_aux_lemma => kernel_rfl) (by as_aux_lemma => kernel_rfl) (fun _ _ _ h => h) (.inl ⟨by as_aux_lemma => kernel_rfl, ?_⟩) hbn4 ?_
  · intro w' hw'
    go_simp
  simp only [Act.put, List.setIfInBounds_toArray]
  refine wpAnyH_take (i := 29) (v := .bool true) rfl (by as_aux_lemma => kernel_rfl) (by as_aux_lemma => kernel_rfl) (by as_aux_lemma => kernel_rfl) (fun _ _ _ h => h) (.inl ⟨by as_aux_lemma => kernel_rfl, ?_⟩) hbn4 ?_
  · intro w' hw'
    go_simp
  simp only [Act.put]
  refine wpAnyH_take (i := 30) (v := .bool true) rfl (by as_aux_lemma => kernel_rfl) (by as_aux_lemma => kernel_rfl) (by as_aux_lemma => kernel_rfl) (fun _ _ _ h => h) (.inl ⟨by as_aux_lemma => kernel_rfl, ?_⟩) hbn4 ?_
  · intro w' hw'
    go_simp
  simp only [Act.put]
  refine wpAnyH_take (i := 31) (v := .slice (some ⟨yb, yo, none⟩) 2 d5) rfl (by as_aux_lemma => kernel_rfl) (by as_aux_lemma => kernel_rfl) (by as_aux_lemma => kernel_rfl) (fun _ _ _ h => h) (.inl ⟨by as_aux_lemma => kernel_rfl, ?_⟩) hbn4 ?_
  · intro w' hw'
    go_simp
  simp only [Act.put]
  refine wpAnyH_take (i := 32) (v := .int .i64 2) rfl (by as_aux_lemma => kernel_rfl) (by as_aux_lemma => kernel_rfl) (by as_aux_lemma => kernel_rfl) (fun _ _ _ h => h) (.inl ⟨by as_aux_lemma => kernel_rfl, ?_⟩) hbn4 ?_
  · intro w' hw'
    go_simp
  simp only [Act.put]
  refine wpAnyH_take (i := 33) (v := .bool true) rfl (by as_aux_lemma => kernel_rfl) (by as_aux_lemma => kernel_rfl) (by as_aux_lemma => kernel_rfl) (fun _ _ _ h => h) (.inl ⟨by as_aux_lemma => kernel_rfl, ?_⟩) hbn4 ?_
  · intro w' hw'
    go_simp
  simp only [Act.put]
  refine wpAnyH_take (i := 34) (v := .bool true) rfl (by as_aux_lemma => kernel_rfl) (by as_aux_lemma => kernel_rfl) (by as_aux_lemma => kernel_rfl) (fun _ _ _ h => h) (.inl ⟨by as_aux_lemma => kernel_rfl, ?_⟩) hbn4 ?_
  · intro w' hw'
    go_simp
  simp only [Act.put]
  refine wpAnyH_take (i := 35) (v := .bool true) rfl (by as_aux_lemma => kernel_rfl) (by as_aux_lemma => kernel_rfl) (by as_aux_lemma => kernel_rfl) (fun _ _ _ h => h) (.inl ⟨by as_aux_lemma => kernel_rfl, ?_⟩) hbn4 ?_
  · intro w' hw'
    go_simp
  simp only [Act.put]
  refine wpAnyH_take (i := 36) (v := .slice (some ⟨yb, yo, none⟩) 2 d5) rfl (by as_aux_lemma => kernel_rfl) (by as_aux_lemma => kernel_rfl) (by as_aux_lemma => kernel_rfl) (fun _ _ _ h => h) (.inl ⟨by as_aux_lemma => kernel_rfl, ?_⟩) hbn4 ?_
  · intro w' hw'
    go_simp
  simp only [Act.put]
  refine wpAnyH_take (i := 37) (v := .pointer (some ⟨yb, yo, none⟩)) rfl (by as_aux_lemma => kernel_rfl) (by as_aux_lemma => kernel_rfl) (by as_aux_lemma => kernel_rfl) (fun _ _ _ h => h) (.inl ⟨by as_aux_lemma => kernel_rfl, ?_⟩) hbn4 ?_
  · intro w' hw'
    go_simp
  simp only [Act.put]
  refine wpAnyH_take (i := 38) (v := .agg #[.int .i64 52, .int .i64 52]) rfl (by as_aux_lemma => kernel_rfl) (by as_aux_lemma => kernel_rfl) (by as_aux_lemma => kernel_rfl) (fun _ _ _ h => h) (.inl ⟨by as_aux_lemma => kernel_rfl, ?_⟩) hbn4 ?_
  · intro w' hw'
    have hcc := (bcell hw').1
    go_simp
  simp only [Act.put]
  refine wpAnyH_only (i := 39) rfl (by as_aux_lemma => kernel_rfl) (by as_aux_lemma => kernel_rfl) ?_
  go_simp
  refine (between_any _ _ _).mono ?_
  rintro e z5 ⟨rfl, hbz5⟩
  have hbn5 := hbn4.trans (hbz5.mono hbn4.size)
  refine ⟨hbn5, ?_⟩
  try simp only [Act.put, List.setIfInBounds_toArray, List.set_cons_zero, List.set_cons_succ]
  clear hbz5
  refine wpAnyH_take (i := 40) (v := .bool true) rfl (by as_aux_lemma => kernel_rfl) (by as_aux_lemma => kernel_rfl) (by as_aux_lemma => kernel_rfl) (fun _ _ _ h => h) (.inl ⟨by as_aux_lemma => kernel_rfl, ?_⟩) hbn5 ?_
  · intro w' hw'
    go_simp
  simp only [Act.put, List.setIfInBounds_toArray]
  refine wpAnyH_take (i := 41) (v := .bool true) rfl (by as_aux_lemma => kernel_rfl) (by as_aux_lemma => kernel_rfl) (by as_aux_lemma => kernel_rfl) (fun _ _ _ h => h) (.inl ⟨by as_aux_lemma => kernel_rfl, ?_⟩) hbn5 ?_
  · intro w' hw'
    go_simp
  simp only [Act.put]
  refine wpAnyH_take (i := 42) (v := .bool true) rfl (by as_aux_lemma => kernel_rfl) (by as_aux_lemma => kernel_rfl) (by as_aux_lemma => kernel_rfl) (fun _ _ _ h => h) (.inl ⟨by as_aux_lemma => kernel_rfl, ?_⟩) hbn5 ?_
  · intro w' hw'
    go_simp
  simp only [Act.put]
  refine wpAnyH_take (i := 43) (v := .slice (some ⟨yb, yo, none⟩) 2 d5) rfl (by as_aux_lemma => kernel_rfl) (by as_aux_lemma => kernel_rfl) (by as_aux_lemma => kernel_rfl) (fun _ _ _ h => h) (.inl ⟨by as_aux_lemma => kernel_rfl, ?_⟩) hbn5 ?_
  · intro w' hw'
    go_simp
  simp only [Act.put]
  refine wpAnyH_take (i := 44) (v := .pointer (some ⟨yb, yo + 2, none⟩)) rfl (by as_aux_lemma => kernel_rfl) (by as_aux_lemma => kernel_rfl) (by as_aux_lemma => kernel_rfl) (fun _ _ _ h => h) (.inl ⟨by as_aux_lemma => kernel_rfl, ?_⟩) hbn5 ?_
  · intro w' hw'
    go_simp
  simp only [Act.put]
  refine wpAnyH_take (i := 45) (v := .agg #[.int .i64 57, .int .i64 57]) rfl (by as_aux_lemma => kernel_rfl) (by as_aux_lemma => kernel_rfl) (by as_aux_lemma => kernel_rfl) (fun _ _ _ h => h) (.inl ⟨by as_aux_lemma => kernel_rfl, ?_⟩) hbn5 ?_
  · intro w' hw'
    have hcc := (bcell hw').1
    go_simp
  simp only [Act.put]
  refine wpAnyH_only (i := 46) rfl (by as_aux_lemma => kernel_rfl) (by as_aux_lemma => kernel_rfl) ?_
  go_simp
  refine (between_any _ _ _).mono ?_
  rintro e z6 ⟨rfl, hbz6⟩
  have hbn6 := hbn5.trans (hbz6.mono hbn5.size)
  refine ⟨hbn6, ?_⟩
  try simp only [Act.put, List.setIfInBounds_toArray, List.set_cons_zero, List.set_cons_succ]
  clear hbz6
  refine wpAnyH_take (i := 47) (v := .bool true) rfl (by as_aux_lemma => kernel_rfl) (by as_aux_lemma => kernel_rfl) (by as_aux_lemma => kernel_rfl) (fun _ _ _ h => h) (.inl ⟨by as_aux_lemma => kernel_rfl, ?_⟩) hbn6 ?_
  · intro w' hw'
    go_simp
  simp only [Act.put, List.setIfInBounds_toArray]
  refine wpAnyH_take (i := 48) (v := .bool true) rfl (by as_aux_lemma => kernel_rfl) (by as_aux_lemma => kernel_rfl) (by as_aux_lemma => kernel_rfl) (fun _ _ _ h => h) (.inl ⟨by as_aux_lemma => kernel_rfl, ?_⟩) hbn6 ?_
  · intro w' hw'
    go_simp
  simp only [Act.put]
  refine wpAnyH_take (i := 49) (v := .bool true) rfl (by as_aux_lemma => kernel_rfl) (by as_aux_lemma => kernel_rfl) (by as_aux_lemma => kernel_rfl) (fun _ _ _ h => h) (.inl ⟨by as_aux_lemma => kernel_rfl, ?_⟩) hbn6 ?_
  · intro w' hw'
    go_simp
  simp only [Act.put]
  refine wpAnyH_take (i := 50) (v := .int .i64 0) rfl (by as_aux_lemma => kernel_rfl) (by as_aux_lemma => kernel_rfl) (by as_aux_lemma => kernel_rfl) (fun _ _ _ h => h) (.inl ⟨by as_aux_lemma => kernel_rfl, ?_⟩) hbn6 ?_
  · intro w' hw'
    go_simp
  simp only [Act.put]
  refine wpAnyH_take (i := 51) (v := .bool true) rfl (by as_aux_lemma => kernel_rfl) (by as_aux_lemma => kernel_rfl) (by as_aux_lemma => kernel_rfl) (fun _ _ _ h => h) (.inl ⟨by as_aux_lemma => kernel_rfl, ?_⟩) hbn6 ?_
  · intro w' hw'
    go_simp
  simp only [Act.put]
  refine wpAnyH_take (i := 52) (v := .bool true) rfl (by as_aux_lemma => kernel_rfl) (by as_aux_lemma => kernel_rfl) (by as_aux_lemma => kernel_rfl) (fun _ _ _ h => h) (.inl ⟨by as_aux_lemma => kernel_rfl, ?_⟩) hbn6 ?_
  · intro w' hw'
    go_simp
  simp only [Act.put]
  refine wpAnyH_take (i := 53) (v := .bool true) rfl (by as_aux_lemma => kernel_rfl) (by as_aux_lemma => kernel_rfl) (by as_aux_lemma => kernel_rfl) (fun _ _ _ h => h) (.inl ⟨by as_aux_lemma => kernel_rfl, ?_⟩) hbn6 ?_
  · intro w' hw'
    go_simp
  simp only [Act.put]
  refine wpAnyH_take (i := 54) (v := .int .i64 3) rfl (by as_aux_lemma => kernel_rfl) (by as_aux_lemma => kernel_rfl) (by as_aux_lemma => kernel_rfl) (fun _ _ _ h => h) (.inl ⟨by as_aux_lemma => kernel_rfl, ?_⟩) hbn6 ?_
  · intro w' hw'
    go_simp
  simp only [Act.put]
  refine wpAnyH_take (i := 55) (v := .bool true) rfl (by as_aux_lemma => kernel_rfl) (by as_aux_lemma => kernel_rfl) (by as_aux_lemma => kernel_rfl) (fun _ _ _ h => h) (.inl ⟨by as_aux_lemma => kernel_rfl, ?_⟩) hbn6 ?_
  · intro w' hw'
    go_simp
  simp only [Act.put]
  refine wpAnyH_take (i := 56) (v := .bool true) rfl (by as_aux_lemma => kernel_rfl) (by as_aux_lemma => kernel_rfl) (by as_aux_lemma => kernel_rfl) (fun _ _ _ h => h) (.inl ⟨by as_aux_lemma => kernel_rfl, ?_⟩) hbn6 ?_
  · intro w' hw'
    go_simp
  simp only [Act.put]
  refine wpAnyH_take (i := 57) (v := .bool true) rfl (by as_aux_lemma => kernel_rfl) (by as_aux_lemma => kernel_rfl) (by as_aux_lemma => kernel_rfl) (fun _ _ _ h => h) (.inl ⟨by as_aux_lemma => kernel_rfl, ?_⟩) hbn6 ?_
  · intro w' hw'
    go_simp
  simp only [Act.put]
  refine wpAnyH_take (i := 58) (v := .int .i64 0) rfl (by as_aux_lemma => kernel_rfl) (by as_aux_lemma => kernel_rfl) (by as_aux_lemma => kernel_rfl) (fun _ _ _ h => h) (.inl ⟨by as_aux_lemma => kernel_rfl, ?_⟩) hbn6 ?_
  · intro w' hw'
    go_simp
  simp only [Act.put]
  refine wpAnyH_take (i := 59) (v := .bool true) rfl (by as_aux_lemma => kernel_rfl) (by as_aux_lemma => kernel_rfl) (by as_aux_lemma => kernel_rfl) (fun _ _ _ h => h) (.inl ⟨by as_aux_lemma => kernel_rfl, ?_⟩) hbn6 ?_
  · intro w' hw'
    go_simp
  simp only [Act.put]
  refine wpAnyH_take (i := 60) (v := .bool true) rfl (by as_aux_lemma => kernel_rfl) (by as_aux_lemma => kernel_rfl) (by as_aux_lemma => kernel_rfl) (fun _ _ _ h => h) (.inl ⟨by as_aux_lemma => kernel_rfl, ?_⟩) hbn6 ?_
  · intro w' hw'
    go_simp
  simp only [Act.put]
  refine wpAnyH_take (i := 61) (v := .bool true) rfl (by as_aux_lemma => kernel_rfl) (by as_aux_lemma => kernel_rfl) (by as_aux_lemma => kernel_rfl) (fun _ _ _ h => h) (.inl ⟨by as_aux_lemma => kernel_rfl, ?_⟩) hbn6 ?_
  · intro w' hw'
    go_simp
  simp only [Act.put]
  refine wpAnyH_take (i := 62) (v := .slice a9 1 c9) rfl (by as_aux_lemma => kernel_rfl) (by as_aux_lemma => kernel_rfl) (by as_aux_lemma => kernel_rfl) (fun _ _ _ h => h) (.inl ⟨by as_aux_lemma => kernel_rfl, ?_⟩) hbn6 ?_
  · intro w' hw'
    go_simp
  simp only [Act.put]
  refine wpAnyH_only (i := 63) rfl (by as_aux_lemma => kernel_rfl) (by as_aux_lemma => kernel_rfl) ?_
  go_simp
  have hst7 := ints_lit z6 [3] #[.int .i64 3] 3 rfl
  have hba7 := below_alloc1 (Nat.le_refl z6.heap.size) (.cells #[.int .i64 3] 3)
  have hbn7 := hbn6.trans (hba7.mono hbn6.size)
  refine ⟨hbn7, ?_⟩
  try simp only [Act.put, List.setIfInBounds_toArray, List.set_cons_zero, List.set_cons_succ]
  refine wpAnyH_only (i := 64) rfl (by as_aux_lemma => kernel_rfl) (by as_aux_lemma => kernel_rfl) ?_
  go_simp
  refine (same_any [3] [3] _ _ _ _ ((HI9.out.below hbn7).le hbn7.size) hst7 (Nat.le_refl _) (by decide) (by decide)).mono ?_
  rw [show sameB [3] [3] = true from rfl]
  rintro e z8 ⟨rfl, hbz8⟩
  have hbn8 := hbn7.trans (hbz8.mono hbn7.size)
  clear hst7 hba7
  refine ⟨hbn8, ?_⟩
  try simp only [Act.put, List.setIfInBounds_toArray, List.set_cons_zero, List.set_cons_succ]
  clear hbz8
  refine wpAnyH_take (i := 65) (v := .bool true) rfl (by as_aux_lemma => kernel_rfl) (by as_aux_lemma => kernel_rfl) (by as_aux_lemma => kernel_rfl) (fun _ _ _ h => h) (.inl ⟨by as_aux_lemma => kernel_rfl, ?_⟩) hbn8 ?_
  · intro w' hw'
    go_simp
  simp only [Act.put, List.setIfInBounds_toArray]
  refine wpAnyH_take (i := 66) (v := .bool true) rfl (by as_aux_lemma => kernel_rfl) (by as_aux_lemma => kernel_rfl) (by as_aux_lemma => kernel_rfl) (fun _ _ _ h => h) (.inl ⟨by as_aux_lemma => kernel_rfl, ?_⟩) hbn8 ?_
  · intro w' hw'
    go_simp
  simp only [Act.put]
  refine wpAnyH_take (i := 67) (v := .int .i64 0) rfl (by as_aux_lemma => kernel_rfl) (by as_aux_lemma => kernel_rfl) (by as_aux_lemma => kernel_rfl) (fun _ _ _ h => h) (.inl ⟨by as_aux_lemma => kernel_rfl, ?_⟩) hbn8 ?_
  · intro w' hw'
    go_simp
  simp only [Act.put]
  refine wpAnyH_take (i := 68) (v := .bool true) rfl (by as_aux_lemma => kernel_rfl) (by as_aux_lemma => kernel_rfl) (by as_aux_lemma => kernel_rfl) (fun _ _ _ h => h) (.inl ⟨by as_aux_lemma => kernel_rfl, ?_⟩) hbn8 ?_
  · intro w' hw'
    go_simp
  simp only [Act.put]
  refine wpAnyH_take (i := 69) (v := .bool true) rfl (by as_aux_lemma => kernel_rfl) (by as_aux_lemma => kernel_rfl) (by as_aux_lemma => kernel_rfl) (fun _ _ _ h => h) (.inl ⟨by as_aux_lemma => kernel_rfl, ?_⟩) hbn8 ?_
  · intro w' hw'
    go_simp
  simp only [Act.put]
  refine wpAnyH_take (i := 70) (v := .bool true) rfl (by as_aux_lemma => kernel_rfl) (by as_aux_lemma => kernel_rfl) (by as_aux_lemma => kernel_rfl) (fun _ _ _ h => h) (.inl ⟨by as_aux_lemma => kernel_rfl, ?_⟩) hbn8 ?_
  · intro w' hw'
    go_simp
  simp only [Act.put]
  refine wpAnyH_take (i := 71) (v := .slice a11 2 c11) rfl (by as_aux_lemma => kernel_rfl) (by as_aux_lemma => kernel_rfl) (by as_aux_lemma => kernel_rfl) (fun _ _ _ h => h) (.inl ⟨by as_aux_lemma => kernel_rfl, ?_⟩) hbn8 ?_
  · intro w' hw'
    go_simp
  simp only [Act.put]
  refine wpAnyH_only (i := 72) rfl (by as_aux_lemma => kernel_rfl) (by as_aux_lemma => kernel_rfl) ?_
  go_simp
  have hst9 := ints_lit z8 [2, 10] #[.int .i64 2, .int .i64 10] 3 rfl
  have hba9 := below_alloc1 (Nat.le_refl z8.heap.size) (.cells #[.int .i64 2, .int .i64 10] 3)
  have hbn9 := hbn8.trans (hba9.mono hbn8.size)
  refine ⟨hbn9, ?_⟩
  try simp only [Act.put, List.setIfInBounds_toArray, List.set_cons_zero, List.set_cons_succ]
  refine wpAnyH_only (i := 73) rfl (by as_aux_lemma => kernel_rfl) (by as_aux_lemma => kernel_rfl) ?_
  go_simp
  refine (same_any [2, 10] [2, 10] _ _ _ _ ((HI11.out.below hbn9).le hbn9.size) hst9 (Nat.le_refl _) (by decide) (by decide)).mono ?_
  rw [show sameB [2, 10] [2, 10] = true from rfl]
  rintro e z10 ⟨rfl, hbz10⟩
  have hbn10 := hbn9.trans (hbz10.mono hbn9.size)
  clear hst9 hba9
  refine ⟨hbn10, ?_⟩
  try simp only [Act.put, List.setIfInBounds_toArray, List.set_cons_zero, List.set_cons_succ]
  clear hbz10
  refine wpAnyH_take (i := 74) (v := .bool true) rfl (by as_aux_lemma => kernel_rfl) (by as_aux_lemma => kernel_rfl) (by as_aux_lemma => kernel_rfl) (fun _ _ _ h => h) (.inl ⟨by as_aux_lemma => kernel_rfl, ?_⟩) hbn10 ?_
  · intro w' hw'
    go_simp
  simp only [Act.put, List.setIfInBounds_toArray]
  refine wpAnyH_take (i := 75) (v := .bool true) rfl (by as_aux_lemma => kernel_rfl) (by as_aux_lemma => kernel_rfl) (by as_aux_lemma => kernel_rfl) (fun _ _ _ h => h) (.inl ⟨by as_aux_lemma => kernel_rfl, ?_⟩) hbn10 ?_
  · intro w' hw'
    go_simp
  simp only [Act.put]
  refine wpAnyH_take (i := 76) (v := .int .i64 10) rfl (by as_aux_lemma => kernel_rfl) (by as_aux_lemma => kernel_rfl) (by as_aux_lemma => kernel_rfl) (fun _ _ _ h => h) (.inl ⟨by as_aux_lemma => kernel_rfl, ?_⟩) hbn10 ?_
  · intro w' hw'
    go_simp
  simp only [Act.put]
  refine wpAnyH_take (i := 77) (v := .bool true) rfl (by as_aux_lemma => kernel_rfl) (by as_aux_lemma => kernel_rfl) (by as_aux_lemma => kernel_rfl) (fun _ _ _ h => h) (.inl ⟨by as_aux_lemma => kernel_rfl, ?_⟩) hbn10 ?_
  · intro w' hw'
    go_simp
  simp only [Act.put]
  refine wpAnyH_take (i := 78) (v := .bool true) rfl (by as_aux_lemma => kernel_rfl) (by as_aux_lemma => kernel_rfl) (by as_aux_lemma => kernel_rfl) (fun _ _ _ h => h) (.inl ⟨by as_aux_lemma => kernel_rfl, ?_⟩) hbn10 ?_
  · intro w' hw'
    go_simp
  simp only [Act.put]
  refine wpAnyH_take (i := 79) (v := .bool true) rfl (by as_aux_lemma => kernel_rfl) (by as_aux_lemma => kernel_rfl) (by as_aux_lemma => kernel_rfl) (fun _ _ _ h => h) (.inl ⟨by as_aux_lemma => kernel_rfl, ?_⟩) hbn10 ?_
  · intro w' hw'
    go_simp
  simp only [Act.put]
  refine wpAnyH_take (i := 80) (v := .int .i64 0) rfl (by as_aux_lemma => kernel_rfl) (by as_aux_lemma => kernel_rfl) (by as_aux_lemma => kernel_rfl) (fun _ _ _ h => h) (.inl ⟨by as_aux_lemma => kernel_rfl, ?_⟩) hbn10 ?_
  · intro w' hw'
    go_simp
  simp only [Act.put]
  refine wpAnyH_take (i := 81) (v := .bool true) rfl (by as_aux_lemma => kernel_rfl) (by as_aux_lemma => kernel_rfl) (by as_aux_lemma => kernel_rfl) (fun _ _ _ h => h) (.inl ⟨by as_aux_lemma => kernel_rfl, ?_⟩) hbn10 ?_
  · intro w' hw'
    go_simp
  simp only [Act.put]
  refine wpAnyH_take (i := 82) (v := .bool true) rfl (by as_aux_lemma => kernel_rfl) (by as_aux_lemma => kernel_rfl) (by as_aux_lemma => kernel_rfl) (fun _ _ _ h => h) (.inl ⟨by as_aux_lemma => kernel_rfl, ?_⟩) hbn10 ?_
  · intro w' hw'
    go_simp
  simp only [Act.put]
  refine wpAnyH_take (i := 83) (v := .bool true) rfl (by as_aux_lemma => kernel_rfl) (by as_aux_lemma => kernel_rfl) (by as_aux_lemma => kernel_rfl) (fun _ _ _ h => h) (.inl ⟨by as_aux_lemma => kernel_rfl, ?_⟩) hbn10 ?_
  · intro w' hw'
    go_simp
  simp only [Act.put]
  refine wpAnyH_take (i := 84) (v := .int .i64 1) rfl (by as_aux_lemma => kernel_rfl) (by as_aux_lemma => kernel_rfl) (by as_aux_lemma => kernel_rfl) (fun _ _ _ h => h) (.inl ⟨by as_aux_lemma => kernel_rfl, ?_⟩) hbn10 ?_
  · intro w' hw'
    go_simp
  simp only [Act.put]
  refine wpAnyH_take (i := 85) (v := .bool true) rfl (by as_aux_lemma => kernel_rfl) (by as_aux_lemma => kernel_rfl) (by as_aux_lemma => kernel_rfl) (fun _ _ _ h => h) (.inl ⟨by as_aux_lemma => kernel_rfl, ?_⟩) hbn10 ?_
  · intro w' hw'
    go_simp
  simp only [Act.put]
  refine wpAnyH_take (i := 86) (v := .bool true) rfl (by as_aux_lemma => kernel_rfl) (by as_aux_lemma => kernel_rfl) (by as_aux_lemma => kernel_rfl) (fun _ _ _ h => h) (.inl ⟨by as_aux_lemma => kernel_rfl, ?_⟩) hbn10 ?_
  · intro w' hw'
    go_simp
  simp only [Act.put]
  refine wpAnyH_take (i := 87) (v := .bool true) rfl (by as_aux_lemma => kernel_rfl) (by as_aux_lemma => kernel_rfl) (by as_aux_lemma => kernel_rfl) (fun _ _ _ h => h) (.inl ⟨by as_aux_lemma => kernel_rfl, ?_⟩) hbn10 ?_
  · intro w' hw'
    go_simp
  simp only [Act.put]
  refine wpAnyH_take (i := 88) (v := .int .i64 0) rfl (by as_aux_lemma => kernel_rfl) (by as_aux_lemma => kernel_rfl) (by as_aux_lemma => kernel_rfl) (fun _ _ _ h => h) (.inl ⟨by as_aux_lemma => kernel_rfl, ?_⟩) hbn10 ?_
  · intro w' hw'
    go_simp
  simp only [Act.put]
  refine wpAnyH_take (i := 89) (v := .bool true) rfl (by as_aux_lemma => kernel_rfl) (by as_aux_lemma => kernel_rfl) (by as_aux_lemma => kernel_rfl) (fun _ _ _ h => h) (.inl ⟨by as_aux_lemma => kernel_rfl, ?_⟩) hbn10 ?_
  · intro w' hw'
    go_simp
  simp only [Act.put]
  refine wpAnyH_take (i := 90) (v := .bool true) rfl (by as_aux_lemma => kernel_rfl) (by as_aux_lemma => kernel_rfl) (by as_aux_lemma => kernel_rfl) (fun _ _ _ h => h) (.inl ⟨by as_aux_lemma => kernel_rfl, ?_⟩) hbn10 ?_
  · intro w' hw'
    go_simp
  simp only [Act.put]
  refine wpAnyH_take (i := 91) (v := .bool true) rfl (by as_aux_lemma => kernel_rfl) (by as_aux_lemma => kernel_rfl) (by as_aux_lemma => kernel_rfl) (fun _ _ _ h => h) (.inl ⟨by as_aux_lemma => kernel_rfl, ?_⟩) hbn10 ?_
  · intro w' hw'
    go_simp
  simp only [Act.put]
  refine wpAnyH_take (i := 92) (v := .slice a21 1 c21) rfl (by as_aux_lemma => kernel_rfl) (by as_aux_lemma => kernel_rfl) (by as_aux_lemma => kernel_rfl) (fun _ _ _ h => h) (.inl ⟨by as_aux_lemma => kernel_rfl, ?_⟩) hbn10 ?_
  · intro w' hw'
    go_simp
  simp only [Act.put]
  refine wpAnyH_only (i := 93) rfl (by as_aux_lemma => kernel_rfl) (by as_aux_lemma => kernel_rfl) ?_
  go_simp
  have hst11 := ints_lit z10 [0] #[.int .i64 0] 3 rfl
  have hba11 := below_alloc1 (Nat.le_refl z10.heap.size) (.cells #[.int .i64 0] 3)
  have hbn11 := hbn10.trans (hba11.mono hbn10.size)
  refine ⟨hbn11, ?_⟩
  try simp only [Act.put, List.setIfInBounds_toArray, List.set_cons_zero, List.set_cons_succ]
  refine wpAnyH_only (i := 94) rfl (by as_aux_lemma => kernel_rfl) (by as_aux_lemma => kernel_rfl) ?_
  go_simp
  refine (same_any [0] [0] _ _ _ _ ((HI21.out.below hbn11).le hbn11.size) hst11 (Nat.le_refl _) (by decide) (by decide)).mono ?_
  rw [show sameB [0] [0] = true from rfl]
  rintro e z12 ⟨rfl, hbz12⟩
  have hbn12 := hbn11.trans (hbz12.mono hbn11.size)
  clear hst11 hba11
  refine ⟨hbn12, ?_⟩
  try simp only [Act.put, List.setIfInBounds_toArray, List.set_cons_zero, List.set_cons_succ]
  clear hbz12
  refine wpAnyH_take (i := 95) (v := .bool true) rfl (by as_aux_lemma => kernel_rfl) (by as_aux_lemma => kernel_rfl) (by as_aux_lemma => kernel_rfl) (fun _ _ _ h => h) (.inl ⟨by as_aux_lemma => kernel_rfl, ?_⟩) hbn12 ?_
  · intro w' hw'
    go_simp
  simp only [Act.put, List.setIfInBounds_toArray]
  have HBL := hid hbn12
  clear hbn12
  refine wpAnyH_only (i := 96) rfl (by as_aux_lemma => kernel_rfl) (by as_aux_lemma => kernel_rfl) ?_
  go_simp
  refine ⟨HBL.out, ?_⟩
  try simp only [Act.put, List.setIfInBounds_toArray, List.set_cons_zero, List.set_cons_succ]
  refine wpAnyH_done (by kernel_rfl) ?_ _
  go_wp2_with fail
  go_ret
  exact ⟨rfl, HB21.out.trans (HBL.out.mono HB21.out.size)⟩
end Go.Proofs.Ytjddcaimjofihaa
