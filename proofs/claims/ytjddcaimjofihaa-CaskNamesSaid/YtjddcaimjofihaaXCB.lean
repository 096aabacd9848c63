/- The second half of the walk of the law CaskNames; no condition. -/
import Derived.Test.YtjddcaimjofihaaXG
import Derived.Test.YtjddcaimjofihaaN1
import Derived.Test.YtjddcaimjofihaaRI
import Derived.Test.YtjddcaimjofihaaRH
import Derived.Deep.Cut
namespace Go.Proofs.Ytjddcaimjofihaa
open Go.RowKit Go.Shelf
set_option maxRecDepth 100000

theorem ye_two {S : World → Prop} (HG : ∀ a b, S a → Below a.heap.size a b → S b) (ts : List Tl) (v : Value) {w : World} (hS : S w) (h : Tls (Lt w.heap.size) w v ts) :
    Calls Try.prog 75 #[v] w fun e w' => ∃ u, e = .returned u ∧ Below w.heap.size w w' ∧ S w' ∧ CeV (Lt w'.heap.size) w' u (twoC ts) :=
  (two_any ts v w.heap.size w (Nat.le_refl _) h).mono fun _ w' ⟨u, he, hc, hb⟩ => ⟨u, he, hb, HG w w' hS hb, hc⟩
theorem st_ce (c : Ce) : ∀ (u : Value) (a b : World), CeV (Lt a.heap.size) a u c → Below a.heap.size a b → CeV (Lt b.heap.size) b u c := fun _ _ _ h hb => (h.below hb).le hb.size
theorem st_ints (l : List Int) : ∀ (u : Value) (a b : World), Ints (Lt a.heap.size) a u l → Below a.heap.size a b → Ints (Lt b.heap.size) b u l := fun _ _ _ h hb => (h.below hb).le hb.size
theorem st_tls (l : List Tl) : ∀ (u : Value) (a b : World), Tls (Lt a.heap.size) a u l → Below a.heap.size a b → Tls (Lt b.heap.size) b u l := fun _ _ _ h hb => (h.below hb).le hb.size
theorem sl_lit {α : Type} {sz : Nat} {enc : α → List Value} (w : World) (l : List α) (cs : Array Value) (t : TypeId) (he : cs.toList = l.flatMap enc) (henc : ∀ y, (enc y).length = sz) : Sl sz enc (Lt (w.alloc (.cells cs t)).heap.size) (w.alloc (.cells cs t)) (.slice (some ⟨w.heap.size, 0, none⟩) l.length l.length) l :=
  Sl.of_row (heap_new w _) (by show _ < _; simp) he henc (Nat.le_refl _)


/-- What follows a region that a branch follows. -/
def isR (n : Nat) : Code → Bool
  | .seq (.region id _ _) _ => id == n
  | _ => false
def restR (n : Nat) : Code → Option Code
  | .seq a b => if isR n a then some b else restR n b
  | .scope c => restR n c
  | _ => none

set_option maxHeartbeats 16000000 in
theorem CaskNames_rest (w0 w11 : World) (u0 u1 u2 u3 u4 u5 u6 u7 u8 u9 u10 u11 u12 u13 u14 u15 u16 u17 u18 u19 u20 u21 u22 u23 u24 u25 u26 u27 u28 u29 u30 u31 u32 u33 u34 u35 u36 u37 u38 u39 u40 u41 u42 u43 u44 u45 u46 u47 u48 u49 u50 u51 u52 u53 u54 u55 u56 u57 u58 u59 u60 u61 u62 u63 u64 u65 u66 u67 u68 u69 u70 u71 u72 u73 u74 u75 u76 u77 u78 u79 u80 u81 u82 u83 u84 u85 u86 u87 u88 u89 u90 u91 u92 u93 u94 u95 u96 u97 u98 u99 u100 u101 u102 u103 u104 u105 u106 u107 u108 u109 u110 u111 u112 u113 u114 u115 u116 u117 u118 u119 u120 u121 u122 u123 u124 u125 u126 u127 u128 u129 u130 u131 u132 u133 u134 u135 u136 u137 u138 u139 u140 u141 u142 u143 u144 u145 u146 u147 u148 u149 u150 u151 u152 u153 u154 u155 u156 u157 u158 u159 u160 u161 u162 u163 u164 u165 u166 u167 u168 u169 u170 u171 u172 u173 u174 u175 u176 u177 u178 u179 u180 u181 u182 u183 u184 u185 u186 u187 u188 u189 u190 u191 u192 u193 u194 u195 u196 u197 u198 u199 u200 u201 u202 u203 u204 u205 u206 u207 u208 u209 u210 u211 u212 u213 u214 u215 u216 u217 u218 u219 u220 u221 u222 u223 u224 u225 u226 u227 u228 u229 u230 u231 u232 u233 u234 u235 u236 u237 u238 u239 u240 u241 u242 u243 u244 u245 u246 u247 u248 u249 u250 u251 u252 u253 u254 u255 u256 u257 u258 u259 u260 u261 u262 u263 u264 u265 u266 u267 u268 u269 u270 u271 u272 u273 u274 u275 u276 u277 u278 u279 u280 u281 u282 u283 u284 u285 u286 u287 u288 u289 u290 u291 u292 u293 u294 u295 u296 u297 u298 u299 u300 u301 u302 u303 u304 u305 u306 u307 u308 u309 u310 u311 u312 u313 u314 u315 u316 u317 u318 u319 u320 u321 u322 u323 u324 u325 u326 u327 u328 u329 u330 u331 u332 u333 u334 u335 u336 u337 : Value) (HB11 : Hid (Below w0.heap.size w0 w11)) :
    Code.wp Try.prog ((Try.f18.body.bind (restR 6)).getD .skip) (bodyPost Try.prog Try.f18 (RetT w0)) ⟨#[u0, u1, u2, u3, u4, u5, u6, u7, u8, u9, u10, u11, u12, u13, u14, u15, u16, u17, u18, u19, u20, u21, u22, u23, u24, u25, u26, u27, u28, u29, u30, u31, u32, u33, u34, u35, u36, u37, u38, u39, u40, u41, u42, u43, u44, u45, u46, u47, u48, u49, u50, u51, u52, u53, u54, u55, u56, u57, u58, u59, u60, u61, u62, u63, u64, u65, u66, u67, u68, u69, u70, u71, u72, u73, u74, u75, u76, u77, u78, u79, u80, u81, u82, u83, u84, u85, u86, u87, u88, u89, u90, u91, u92, u93, u94, u95, u96, u97, u98, u99, u100, u101, u102, u103, u104, u105, u106, u107, u108, u109, u110, u111, u112, u113, u114, u115, u116, u117, u118, u119, u120, u121, u122, u123, u124, u125, u126, u127, u128, u129, u130, u131, u132, u133, u134, u135, u136, u137, u138, u139, u140, u141, u142, u143, u144, u145, u146, u147, u148, u149, u150, u151, u152, u153, u154, u155, u156, u157, u158, u159, u160, u161, u162, u163, u164, u165, u166, u167, u168, u169, u170, u171, u172, u173, u174, u175, u176, u177, u178, u179, u180, u181, u182, u183, u184, u185, u186, u187, u188, u189, u190, u191, u192, u193, u194, u195, u196, u197, u198, u199, u200, u201, u202, u203, u204, u205, u206, u207, u208, u209, u210, u211, u212, u213, u214, u215, u216, u217, u218, u219, u220, u221, u222, u223, u224, u225, u226, u227, u228, u229, u230, u231, u232, u233, u234, u235, u236, u237, u238, u239, u240, u241, u242, u243, u244, u245, u246, u247, u248, u249, u250, u251, u252, u253, u254, u255, u256, u257, u258, u259, u260, u261, u262, u263, u264, u265, u266, u267, u268, u269, u270, u271, u272, u273, u274, u275, u276, u277, u278, u279, u280, u281, u282, u283, u284, u285, u286, u287, u288, u289, u290, u291, u292, u293, u294, u295, u296, u297, u298, u299, u300, u301, u302, u303, u304, u305, u306, u307, u308, u309, u310, u311, u312, u313, u314, u315, u316, u317, u318, u319, u320, u321, u322, u323, u324, u325, u326, u327, u328, u329, u330, u331, u332, u333, u334, u335, u336, u337], []⟩ w11 := by
  conv => arg 2; whnf
  go_wp2_with fail
  refine (two_any [] _ w11.heap.size w11 (Nat.le_refl _) Sl.nil).mono ?_
  rintro e w40 ⟨v40, rfl, hc40, hb40⟩
  have HB40 := hid (below_after HB11.out hb40 (Nat.le_refl _))
  have hs40 := HB40.out.size
  have hd40 := hb40.size
  clear hb40
  obtain ⟨_, _, _, _, _, _, rfl, -⟩ := id hc40.open
  go_wp2_with fail
  have hst := ints_lit w40 [41, 64] #[.int .i64 41, .int .i64 64] 3 rfl
  have hba := below_alloc1 (Nat.le_refl w40.heap.size) (.cells #[.int .i64 41, .int .i64 64] 3)
  have hcA := (hc40.below hba).le hba.size
  refine (nPlayE _ _ _ _ (Nat.le_refl _) hcA hst).mono ?_
  rintro e w41 ⟨v41, rfl, -, hbb⟩
  have HB41 := hid (below_after (below_after HB40.out hba (Nat.le_refl _)) hbb (Nat.le_refl _))
  have hs41 := HB41.out.size
  clear hc40 hst hcA hba hbb
  go_wp2_with fail
  refine (two_any [] _ w41.heap.size w41 (Nat.le_refl _) Sl.nil).mono ?_
  rintro e w42 ⟨v42, rfl, hc42, hb42⟩
  have HB42 := hid (below_after HB41.out hb42 (Nat.le_refl _))
  have hs42 := HB42.out.size
  have hd42 := hb42.size
  clear hb42
  obtain ⟨_, _, _, _, _, _, rfl, -⟩ := id hc42.open
  go_wp2_with fail
  refine (nGraded 2 50 0 2 (by decide +kernel) (by decide +kernel) _ _ w42 (Nat.le_refl _) hc42).mono ?_
  rintro e w43 ⟨rfl, hb43⟩
  have HB43 := hid (below_after HB42.out hb43 (Nat.le_refl _))
  have hs43 := HB43.out.size
  have hd43 := hb43.size
  clear hb43
  go_wp2_with fail
  refine (two_any [] _ w43.heap.size w43 (Nat.le_refl _) Sl.nil).mono ?_
  rintro e w44 ⟨v44, rfl, hc44, hb44⟩
  have HB44 := hid (below_after HB43.out hb44 (Nat.le_refl _))
  have hs44 := HB44.out.size
  have hd44 := hb44.size
  clear hb44
  obtain ⟨_, _, _, _, _, _, rfl, -⟩ := id hc44.open
  go_wp2_with fail
  refine (nDecideE _ _ w44 (Nat.le_refl _) hc44).mono ?_
  rintro e w45 ⟨v45, rfl, -, hb45⟩
  have HB45 := hid (below_after HB44.out hb45 (Nat.le_refl _))
  have hs45 := HB45.out.size
  have hd45 := hb45.size
  clear hb45
  go_wp2_with fail
  refine (two_any [] _ w45.heap.size w45 (Nat.le_refl _) Sl.nil).mono ?_
  rintro e w46 ⟨v46, rfl, hc46, hb46⟩
  have HB46 := hid (below_after HB45.out hb46 (Nat.le_refl _))
  have hs46 := HB46.out.size
  have hd46 := hb46.size
  clear hb46
  obtain ⟨_, _, _, _, _, _, rfl, -⟩ := id hc46.open
  go_wp2_with fail
  have hst := ints_lit w46 [10] #[.int .i64 10] 3 rfl
  have hba := below_alloc1 (Nat.le_refl w46.heap.size) (.cells #[.int .i64 10] 3)
  have hcA := (hc46.below hba).le hba.size
  refine (nBlendE [10] 12 55 (by decide +kernel) (by decide) _ _ _ _ (Nat.le_refl _) hcA hst).mono ?_
  rintro e w47 ⟨v47, rfl, -, hbb⟩
  have HB47 := hid (below_after (below_after HB46.out hba (Nat.le_refl _)) hbb (Nat.le_refl _))
  have hs47 := HB47.out.size
  clear hc46 hst hcA hba hbb
  go_wp2_with fail
  refine (two_any [] _ w47.heap.size w47 (Nat.le_refl _) Sl.nil).mono ?_
  rintro e w48 ⟨v48, rfl, hc48, hb48⟩
  have HB48 := hid (below_after HB47.out hb48 (Nat.le_refl _))
  have hs48 := HB48.out.size
  have hd48 := hb48.size
  clear hb48
  obtain ⟨_, _, _, _, _, _, rfl, -⟩ := id hc48.open
  go_wp2_with fail
  have hst := ints_lit w48 [10, 31] #[.int .i64 10, .int .i64 31] 3 rfl
  have hba := below_alloc1 (Nat.le_refl w48.heap.size) (.cells #[.int .i64 10, .int .i64 31] 3)
  have hcA := (hc48.below hba).le hba.size
  refine (nBlendE [10, 31] 12 55 (by decide +kernel) (by decide) _ _ _ _ (Nat.le_refl _) hcA hst).mono ?_
  rintro e w49 ⟨v49, rfl, -, hbb⟩
  have HB49 := hid (below_after (below_after HB48.out hba (Nat.le_refl _)) hbb (Nat.le_refl _))
  have hs49 := HB49.out.size
  clear hc48 hst hcA hba hbb
  go_wp2_with fail
  refine (two_any [] _ w49.heap.size w49 (Nat.le_refl _) Sl.nil).mono ?_
  rintro e w50 ⟨v50, rfl, hc50, hb50⟩
  have HB50 := hid (below_after HB49.out hb50 (Nat.le_refl _))
  have hs50 := HB50.out.size
  have hd50 := hb50.size
  clear hb50
  obtain ⟨_, _, _, _, _, _, rfl, -⟩ := id hc50.open
  go_wp2_with fail
  have hst := ints_lit w50 [10, 10] #[.int .i64 10, .int .i64 10] 3 rfl
  have hba := below_alloc1 (Nat.le_refl w50.heap.size) (.cells #[.int .i64 10, .int .i64 10] 3)
  have hcA := (hc50.below hba).le hba.size
  refine (nBlendE [10, 10] 91 55 (by decide +kernel) (by decide) _ _ _ _ (Nat.le_refl _) hcA hst).mono ?_
  rintro e w51 ⟨v51, rfl, -, hbb⟩
  have HB51 := hid (below_after (below_after HB50.out hba (Nat.le_refl _)) hbb (Nat.le_refl _))
  have hs51 := HB51.out.size
  clear hc50 hst hcA hba hbb
  go_wp2_with fail
  refine (two_any [] _ w51.heap.size w51 (Nat.le_refl _) Sl.nil).mono ?_
  rintro e w52 ⟨v52, rfl, hc52, hb52⟩
  have HB52 := hid (below_after HB51.out hb52 (Nat.le_refl _))
  have hs52 := HB52.out.size
  have hd52 := hb52.size
  clear hb52
  obtain ⟨_, _, _, _, _, _, rfl, -⟩ := id hc52.open
  go_wp2_with fail
  refine (nFirst _ _ w52 (Nat.le_refl _) hc52).mono ?_
  rintro e w53 ⟨rfl, hb53⟩
  have HB53 := hid (below_after HB52.out hb53 (Nat.le_refl _))
  have hs53 := HB53.out.size
  have hd53 := hb53.size
  clear hb53
  go_wp2_with fail
  refine (first_any _).mono ?_
  rintro e w54 ⟨rfl, hb54⟩
  have HB54 := hid (below_after HB53.out hb54 (Nat.le_refl _))
  have hs54 := HB54.out.size
  have hd54 := hb54.size
  clear hb54
  go_wp2_with fail
  refine (wrong_any _).mono ?_
  rintro e w55 ⟨rfl, hb55⟩
  have HB55 := hid (below_after HB54.out hb55 (Nat.le_refl _))
  have hs55 := HB55.out.size
  have hd55 := hb55.size
  clear hb55
  go_wp2_with fail
  have hts := tls_lit w55 [t1, t2] #[.bool true, .int .i64 0, .int .i64 52, .int .i64 52, .bool false, .int .i64 0, .int .i64 40, .int .i64 40] 125 rfl
  have hba := below_alloc1 (Nat.le_refl w55.heap.size) (.cells #[.bool true, .int .i64 0, .int .i64 52, .int .i64 52, .bool false, .int .i64 0, .int .i64 40, .int .i64 40] 125)
  refine (two_any [t1, t2] _ _ _ (Nat.le_refl _) hts).mono ?_
  rintro e w56 ⟨v56, rfl, hc56, hbb⟩
  have HB56 := hid (below_after (below_after HB55.out hba (Nat.le_refl _)) hbb (Nat.le_refl _))
  have hs56 := HB56.out.size
  obtain ⟨_, _, _, _, _, _, rfl, -⟩ := id hc56.open
  clear hts hba hbb
  go_wp2_with fail
  refine (nBoundsE _ _ w56 (Nat.le_refl _) hc56).mono ?_
  rintro e w57 ⟨v57, u57, rfl, -, -, hb57⟩
  have HB57 := hid (below_after HB56.out hb57 (Nat.le_refl _))
  have hs57 := HB57.out.size
  have hd57 := hb57.size
  clear hb57
  clear hc42 hc44 hc52 hc56
  -- six cellars
  go_wp2_with fail
  refine (two_at none 0 0 w57).mono ?_
  rintro e w58 ⟨k58, rfl, ht58⟩
  have HT58 := hid ht58
  have HB58 := hid (below_after HB57.out ht58.below (Nat.le_refl _))
  have hs58 := ht58.size
  have hl58 := ht58.low
  clear ht58
  go_wp2_with fail
  refine (two_at none 0 0 w58).mono ?_
  rintro e w59 ⟨k59, rfl, ht59⟩
  have HT59 := hid ht59
  have HB59 := hid (below_after HB58.out ht59.below (Nat.le_refl _))
  have hs59 := ht59.size
  have hl59 := ht59.low
  clear ht59
  go_wp2_with fail
  refine (two_at none 0 0 w59).mono ?_
  rintro e w60 ⟨k60, rfl, ht60⟩
  have HT60 := hid ht60
  have HB60 := hid (below_after HB59.out ht60.below (Nat.le_refl _))
  have hs60 := ht60.size
  have hl60 := ht60.low
  clear ht60
  go_wp2_with fail
  refine (first_any w60).mono ?_
  rintro e w61 ⟨rfl, hb61⟩
  have HB61 := hid (below_after HB60.out hb61 (Nat.le_refl _))
  have HF61 := hid hb61
  clear hb61
  go_wp2_with fail
  have hba := below_alloc1 (Nat.le_refl w61.heap.size) (.cells #[.bool true, .int .i64 0, .int .i64 52, .int .i64 52] 125)
  have hrt := heap_new w61 (.cells #[.bool true, .int .i64 0, .int .i64 52, .int .i64 52] 125)
  refine (two_at (some ⟨w61.heap.size, 0, none⟩) 1 1 _).mono ?_
  rintro e w62 ⟨k62, rfl, ht62⟩
  have HT62 := hid ht62
  have HF62 := hid (below_after hba ht62.below (Nat.le_refl _))
  have HB62 := hid (below_after HB61.out HF62.out (Nat.le_refl _))
  have hs62 := ht62.size
  have hl62 : w61.heap.size + 1 < k62 := by have := ht62.low; simpa using this
  obtain ⟨T, hT⟩ : ∃ T, T = w61.heap.size := ⟨_, rfl⟩
  rw [← hT] at hrt hl62 ⊢
  have HRT62 := hid ((ht62.below.block T (by rw [hT]; simp)).trans hrt)
  have hTi : T ≤ w61.heap.size ∧ w61.heap.size ≤ T := by omega
  clear ht62 hba hrt hT
  go_wp2_with fail
  refine (two_at none 0 0 w62).mono ?_
  rintro e w63 ⟨k63, rfl, ht63⟩
  have HT63 := hid ht63
  have HB63 := hid (below_after HB62.out ht63.below (Nat.le_refl _))
  have hs63 := ht63.size
  have hl63 := ht63.low
  clear ht63
  go_wp2_with fail
  refine (two_at none 0 0 w63).mono ?_
  rintro e w64 ⟨k64, rfl, ht64⟩
  have HT64 := hid ht64
  have HB64 := hid (below_after HB63.out ht64.below (Nat.le_refl _))
  have hs64 := ht64.size
  have hl64 := ht64.low
  clear ht64
  -- the rows, behind them all
  have D63 := HT64.out.below
  have D62 := below_after HT63.out.below D63 (Nat.le_refl _)
  have D61 := below_after HF62.out D62 (Nat.le_refl _)
  have D60 := below_after HF61.out D61 (Nat.le_refl _)
  have D59 := below_after HT60.out.below D60 (Nat.le_refl _)
  have D58 := below_after HT59.out.below D59 (Nat.le_refl _)
  have R58 := hid (TwoRows.mk (row_grow HT58.out.heaps D58) (row_grow HT58.out.one D58) (row_grow HT58.out.two D58) (row_grow HT58.out.casks D58))
  have R59 := hid (TwoRows.mk (row_grow HT59.out.heaps D59) (row_grow HT59.out.one D59) (row_grow HT59.out.two D59) (row_grow HT59.out.casks D59))
  have R60 := hid (TwoRows.mk (row_grow HT60.out.heaps D60) (row_grow HT60.out.one D60) (row_grow HT60.out.two D60) (row_grow HT60.out.casks D60))
  have R62 := hid (TwoRows.mk (row_grow HT62.out.heaps D62) (row_grow HT62.out.one D62) (row_grow HT62.out.two D62) (row_grow HT62.out.casks D62))
  have R63 := hid (TwoRows.mk (row_grow HT63.out.heaps D63) (row_grow HT63.out.one D63) (row_grow HT63.out.two D63) (row_grow HT63.out.casks D63))
  have R64 := hid (TwoRows.mk HT64.out.heaps HT64.out.one HT64.out.two HT64.out.casks)
  have RT := hid (row_grow HRT62.out D62)
  have e58 : w57.heap.size < k58 ∧ k58 + 4 ≤ w58.heap.size := by omega
  have e59 : w58.heap.size < k59 ∧ k59 + 4 ≤ w59.heap.size := by omega
  have e60 : w59.heap.size < k60 ∧ k60 + 4 ≤ w60.heap.size := by omega
  have e61 := D61.size
  have e61b := HF61.out.size
  have e62 : k62 + 4 ≤ w62.heap.size := by omega
  have e63 : w62.heap.size < k63 ∧ k63 + 4 ≤ w63.heap.size := by omega
  have e64 : w63.heap.size < k64 ∧ k64 + 4 ≤ w64.heap.size := by omega
  clear hs58 hs59 hs60 hs62 hs63 hs64 D58 D59 D60 D61 D62 D63 HT58 HT59 HT60 HT62 HT63 HT64 HRT62 HF61 HF62
  have q01 : w64.heap.size < w64.heap.size + 1 := by omega
  have q02 : w64.heap.size < w64.heap.size + 1 + 1 := by omega
  have q03 : w64.heap.size < w64.heap.size + 1 + 1 + 1 := by omega
  have q04 : w64.heap.size < w64.heap.size + 1 + 1 + 1 + 1 := by omega
  have q05 : w64.heap.size < w64.heap.size + 1 + 1 + 1 + 1 + 1 := by omega
  have q06 : w64.heap.size < w64.heap.size + 1 + 1 + 1 + 1 + 1 + 1 := by omega
  have q12 : w64.heap.size + 1 < w64.heap.size + 1 + 1 := by omega
  have q13 : w64.heap.size + 1 < w64.heap.size + 1 + 1 + 1 := by omega
  have q14 : w64.heap.size + 1 < w64.heap.size + 1 + 1 + 1 + 1 := by omega
  have q15 : w64.heap.size + 1 < w64.heap.size + 1 + 1 + 1 + 1 + 1 := by omega
  have q16 : w64.heap.size + 1 < w64.heap.size + 1 + 1 + 1 + 1 + 1 + 1 := by omega
  have q23 : w64.heap.size + 1 + 1 < w64.heap.size + 1 + 1 + 1 := by omega
  have q24 : w64.heap.size + 1 + 1 < w64.heap.size + 1 + 1 + 1 + 1 := by omega
  have q25 : w64.heap.size + 1 + 1 < w64.heap.size + 1 + 1 + 1 + 1 + 1 := by omega
  have q26 : w64.heap.size + 1 + 1 < w64.heap.size + 1 + 1 + 1 + 1 + 1 + 1 := by omega
  have q34 : w64.heap.size + 1 + 1 + 1 < w64.heap.size + 1 + 1 + 1 + 1 := by omega
  have q35 : w64.heap.size + 1 + 1 + 1 < w64.heap.size + 1 + 1 + 1 + 1 + 1 := by omega
  have q36 : w64.heap.size + 1 + 1 + 1 < w64.heap.size + 1 + 1 + 1 + 1 + 1 + 1 := by omega
  have q45 : w64.heap.size + 1 + 1 + 1 + 1 < w64.heap.size + 1 + 1 + 1 + 1 + 1 := by omega
  have q46 : w64.heap.size + 1 + 1 + 1 + 1 < w64.heap.size + 1 + 1 + 1 + 1 + 1 + 1 := by omega
  have q56 : w64.heap.size + 1 + 1 + 1 + 1 + 1 < w64.heap.size + 1 + 1 + 1 + 1 + 1 + 1 := by omega
  go_upto_region 17 with fail
  obtain ⟨wD, hwD⟩ : ∃ w', w' = (((((w64.alloc (Obj.cells #[.slice (some ⟨k58, 0, none⟩) 2 2, .slice (some ⟨k58 + 1 + 1 + 1, 0, none⟩) 2 2, Value.slice none 0 0] 35)).alloc (Obj.cells #[.slice (some ⟨k59, 0, none⟩) 2 2, .slice (some ⟨k59 + 1 + 1 + 1, 0, none⟩) 2 2, Value.slice none 0 0] 35)).alloc (Obj.cells #[.slice (some ⟨k60, 0, none⟩) 2 2, .slice (some ⟨k60 + 1 + 1 + 1, 0, none⟩) 2 2, Value.slice none 0 0] 35)).alloc (Obj.cells #[.slice (some ⟨k62, 0, none⟩) 2 2, .slice (some ⟨k62 + 1 + 1 + 1, 0, none⟩) 2 2, .slice (some ⟨T, 0, none⟩) 1 1] 35)).alloc (Obj.cells #[.slice (some ⟨k63, 0, none⟩) 2 2, .slice (some ⟨k63 + 1 + 1 + 1, 0, none⟩) 2 2, Value.slice none 0 0] 35)).alloc (Obj.cells #[.slice (some ⟨k64, 0, none⟩) 2 2, .slice (some ⟨k64 + 1 + 1 + 1, 0, none⟩) 2 2, Value.slice none 0 0] 35) := ⟨_, rfl⟩
  rw [← hwD]
  obtain ⟨hsD, hbD, x0, x1, x2, x3, x4, x5⟩ := six_boxes _ _ _ _ _ _ _ wD hwD
  clear q01 q02 q03 q04 q05 q06 q12 q13 q14 q15 q16 q23 q24 q25 q26 q34 q35 q36 q45 q46 q56 hwD
  obtain ⟨S0, hS0⟩ : ∃ S0, S0 = w64.heap.size := ⟨_, rfl⟩
  obtain ⟨S1, hS1⟩ : ∃ S1, S1 = S0 + 1 := ⟨_, rfl⟩
  obtain ⟨S2, hS2⟩ : ∃ S2, S2 = S1 + 1 := ⟨_, rfl⟩
  obtain ⟨S3, hS3⟩ : ∃ S3, S3 = S2 + 1 := ⟨_, rfl⟩
  obtain ⟨S4, hS4⟩ : ∃ S4, S4 = S3 + 1 := ⟨_, rfl⟩
  obtain ⟨S5, hS5⟩ : ∃ S5, S5 = S4 + 1 := ⟨_, rfl⟩
  have HBD := hid (below_after HB64.out hbD (Nat.le_refl _))
  have HKD := hid hbD
  rw [← hS0] at hsD x0 x1 x2 x3 x4 x5 ⊢
  rw [← hS1] at x1 x2 x3 x4 x5 ⊢
  rw [← hS2] at x2 x3 x4 x5 ⊢
  rw [← hS3] at x3 x4 x5 ⊢
  rw [← hS4] at x4 x5 ⊢
  rw [← hS5] at x5 ⊢
  have eS : S0 ≤ w64.heap.size ∧ w64.heap.size ≤ S0 ∧ S1 ≤ S0 + 1 ∧ S0 + 1 ≤ S1 ∧ S2 ≤ S1 + 1 ∧ S1 + 1 ≤ S2 ∧ S3 ≤ S2 + 1 ∧ S2 + 1 ≤ S3 ∧ S4 ≤ S3 + 1 ∧ S3 + 1 ≤ S4 ∧ S5 ≤ S4 + 1 ∧ S4 + 1 ≤ S5 ∧ wD.heap.size ≤ S5 + 1 ∧ S5 + 1 ≤ wD.heap.size := by omega
  have X0 := hid x0
  have X1 := hid x1
  have X2 := hid x2
  have X3 := hid x3
  have X4 := hid x4
  have X5 := hid x5
  clear hS0 hS1 hS2 hS3 hS4 hS5 hsD hbD x0 x1 x2 x3 x4 x5
  have M58 := hid (R58.out.grow (w' := wD) fun b h1 h2 => HKD.out.block b (by omega))
  have M59 := hid (R59.out.grow (w' := wD) fun b h1 h2 => HKD.out.block b (by omega))
  have M60 := hid (R60.out.grow (w' := wD) fun b h1 h2 => HKD.out.block b (by omega))
  have M62 := hid (R62.out.grow (w' := wD) fun b h1 h2 => HKD.out.block b (by omega))
  have M63 := hid (R63.out.grow (w' := wD) fun b h1 h2 => HKD.out.block b (by omega))
  have M64 := hid (R64.out.grow (w' := wD) fun b h1 h2 => HKD.out.block b (by omega))
  have MT := hid ((HKD.out.block T (by omega)).trans RT.out)
  clear R58 R59 R60 R62 R63 R64 RT HKD
  -- heap.Heaps[0] = between(40, 101)
  go_wp2_with fail
  refine wp_region_grow (by kernel_rfl) 4 (fun w' => Below wD.heap.size wD w') ?_ ?_
  · exact (Below.refl _ _).drew
  have HG := fun (a b : World) (h : Below wD.heap.size wD a) (k : Below a.heap.size a b) => (h.trans (k.mono h.size) : Below wD.heap.size wD b)
  have HSD := hid (fun w' (h : Below wD.heap.size wD w') => (h.block S0 (by omega)).trans X0.out : ∀ w', Below wD.heap.size wD w' → w'.heap[S0]? = _)
  refine wpG_take (i := 0) (v := .pointer (some ⟨S0, 0, none⟩)) rfl rfl (by kernel_rfl) (by kernel_rfl) (by kernel_rfl) (by kernel_rfl) (fun _ _ _ h => h) (by rfl) (fun w' hS' => grow_value ?_ hS') ?_
  · go_simp
  try simp only [List.setIfInBounds_toArray, List.set_cons_zero, List.set_cons_succ]
  refine wpG_take (i := 1) (v := .slice (some ⟨k58, 0, none⟩) 2 2) rfl rfl (by kernel_rfl) (by kernel_rfl) (by kernel_rfl) (by kernel_rfl) (fun _ _ _ h => h) (by rfl) (fun w' hS' => grow_value ?_ hS') ?_
  · have s0 := cell_of_row (HSD.out _ hS') 0; simp only [List.getElem?_toArray, List.getElem?_cons_zero] at s0; go_simp
  try simp only [List.setIfInBounds_toArray, List.set_cons_zero, List.set_cons_succ]
  refine wpG_take (i := 2) (v := .agg #[.int .i64 40, .int .i64 101]) rfl rfl (by kernel_rfl) (by kernel_rfl) (by kernel_rfl) (by kernel_rfl) (fun _ _ _ h => h) (by rfl) (fun w' hS' => grow_make (f := 76) (args := #[.int .i64 40, .int .i64 101]) ?_ hS' HG ?_) ?_
  · have s0 := cell_of_row (HSD.out _ hS') 0; simp only [List.getElem?_toArray, List.getElem?_cons_zero] at s0; go_simp
  · have s0 := cell_of_row (HSD.out _ hS') 0; simp only [List.getElem?_toArray, List.getElem?_cons_zero] at s0; exact between_any _ _ _
  try simp only [List.setIfInBounds_toArray, List.set_cons_zero, List.set_cons_succ]
  refine wpG_take (i := 3) (v := .pointer (some ⟨k58, 0, none⟩)) rfl rfl (by kernel_rfl) (by kernel_rfl) (by kernel_rfl) (by kernel_rfl) (fun _ _ _ h => h) (by rfl) (fun w' hS' => grow_value ?_ hS') ?_
  · go_simp
  try simp only [List.setIfInBounds_toArray, List.set_cons_zero, List.set_cons_succ]
  refine wpG_last rfl (by kernel_rfl) (by kernel_rfl) (by rfl) (fun wL hbL hSL => ?_)
  have rk := (hSL.block k58 (by omega)).trans M58.out.heaps
  have d0 := cell_of_row rk 0
  have d1 := cell_of_row rk 1
  have f0 := frozen_of_row rk 0
  have f1 := frozen_of_row rk 1
  simp only [List.getElem?_toArray, List.getElem?_cons_zero, List.getElem?_cons_succ] at d0 d1
  go_simp
  obtain ⟨w70, hw70⟩ : ∃ w', w' = (wL.setCell ⟨k58, 0, none⟩ (.int .i64 40)).setCell ⟨k58, 1, none⟩ (.int .i64 101) := ⟨_, rfl⟩
  rw [← hw70]
  have C70 := hid (show Chg (fun b => b = k58) wD w70 by rw [hw70]; exact (chg_of_below hSL).trans ((setCell_chg _).trans (setCell_chg _)))
  have K70 := hid (show w70.heap[k58]? = some (.cells #[.int .i64 40, .int .i64 101, .int .i64 60, .int .i64 63] 58 (0, 0)) by rw [hw70]; exact row_set (row_set rk 0 _) 1 _)
  have z70 := C70.out.size
  clear hw70 rk d0 d1 f0 f1 hbL hSL HG HSD
  -- weights.Casks[0] = []int{10}
  have r1 := cell_of_row (row_chg X1.out C70.out (by omega)) 1
  have rc := row_chg M59.out.casks C70.out (by omega)
  have d0 := cell_of_row rc 0
  have f0 := frozen_of_row rc 0
  simp only [List.getElem?_toArray, List.getElem?_cons_zero, List.getElem?_cons_succ] at r1 d0
  have l1 : k59 + 1 + 1 + 1 < w70.heap.size := by omega
  have l2 : S1 < w70.heap.size := by omega
  go_upto_region 19 with fail
  obtain ⟨w71, hw71⟩ : ∃ w', w' = (w70.setCell ⟨k59 + 1 + 1 + 1, 0, none⟩ (.slice (some ⟨w70.heap.size, 0, none⟩) 1 1)).alloc (Obj.cells #[.int .i64 10] 3) := ⟨_, rfl⟩
  rw [← hw71]
  have A71 := hid (SetAlloc.of hw71)
  have K71 := hid (A71.out.row rc)
  have z71 : w71.heap.size ≤ w70.heap.size + 1 ∧ w70.heap.size + 1 ≤ w71.heap.size := by have := A71.out.size; omega
  clear hw71 rc r1 d0 f0 l1 l2
  have CC71 := hid (show Chg (fun b => b = k58 ∨ b = k59 + 1 + 1 + 1) wD w71 from (C70.out.mono fun b h => .inl h).trans (A71.out.chg.mono fun b h => .inr h))
  -- empty.Casks[1] = []int{0, 0}
  have r1 := cell_of_row (row_chg X2.out CC71.out (by omega)) 1
  have rc := row_chg M60.out.casks CC71.out (by omega)
  have d0 := cell_of_row rc 1
  have f0 := frozen_of_row rc 1
  simp only [List.getElem?_toArray, List.getElem?_cons_zero, List.getElem?_cons_succ] at r1 d0
  have l1 : k60 + 1 + 1 + 1 < w71.heap.size := by omega
  have l2 : S2 < w71.heap.size := by omega
  go_upto_region 20 with fail
  obtain ⟨w72, hw72⟩ : ∃ w', w' = (w71.setCell ⟨k60 + 1 + 1 + 1, 1, none⟩ (.slice (some ⟨w71.heap.size, 0, none⟩) 2 2)).alloc (Obj.cells #[.int .i64 0, .int .i64 0] 3) := ⟨_, rfl⟩
  rw [← hw72]
  have A72 := hid (SetAlloc.of hw72)
  have K72 := hid (A72.out.row rc)
  have z72 : w72.heap.size ≤ w71.heap.size + 1 ∧ w71.heap.size + 1 ≤ w72.heap.size := by have := A72.out.size; omega
  clear hw72 rc r1 d0 f0 l1 l2
  have CC72 := hid (show Chg (fun b => b = k58 ∨ b = k59 + 1 + 1 + 1 ∨ b = k60 + 1 + 1 + 1) wD w72 from (CC71.out.mono fun b h => by omega).trans (A72.out.chg.mono fun b h => by omega))
  -- trial.Trials[0].Number = 2
  have r1 := cell_of_row (row_chg X3.out CC72.out (by omega)) 2
  have rc := row_chg MT.out CC72.out (by omega)
  have d0 := cell_of_row rc 1
  have f0 := frozen_of_row rc 1
  simp only [List.getElem?_toArray, List.getElem?_cons_zero, List.getElem?_cons_succ] at r1 d0
  have l1 : T < w72.heap.size := by omega
  have l2 : S3 < w72.heap.size := by omega
  go_upto_region 21 with fail
  obtain ⟨w73, hw73⟩ : ∃ w', w' = w72.setCell ⟨T, 1, none⟩ (.int .i64 2) := ⟨_, rfl⟩
  rw [← hw73]
  have C73 := hid (show Chg (fun b => b = T) w72 w73 by rw [hw73]; exact setCell_chg _)
  have K73 := hid (show w73.heap[T]? = some (.cells #[.bool true, .int .i64 2, .int .i64 52, .int .i64 52] 125 (0, 0)) by rw [hw73]; exact row_set rc 1 _)
  have z73 : w73.heap.size ≤ w72.heap.size ∧ w72.heap.size ≤ w73.heap.size := by
    have e : w73.heap.size = w72.heap.size := (by rw [hw73]; simp [World.setCell])
    omega
  clear hw73 rc r1 d0 f0 l1 l2
  have CC73 := hid (show Chg (fun b => b = k58 ∨ b = k59 + 1 + 1 + 1 ∨ b = k60 + 1 + 1 + 1 ∨ b = T) wD w73 from (CC72.out.mono fun b h => by omega).trans (C73.out.mono fun b h => by omega))
  -- many.Trials = make([]Trial, 6)
  have rc := row_chg X4.out CC73.out (by omega)
  have d0 := cell_of_row rc 2
  have f0 := frozen_of_row rc 2
  simp only [List.getElem?_toArray, List.getElem?_cons_zero, List.getElem?_cons_succ] at d0
  have l1 : S4 < w73.heap.size := by omega
  go_upto_region 22 with (at_make; refine wpList_make_six _ rfl _ _ _ rfl (by kernel_rfl) rfl rfl ?_)
  obtain ⟨w74, hw74⟩ : ∃ w', w' = (w73.setCell ⟨S4, 2, none⟩ (.slice (some ⟨w73.heap.size, 0, none⟩) 6 6)).alloc (Obj.cells #[.bool false, .int .i64 0, .int .i64 0, .int .i64 0, .bool false, .int .i64 0, .int .i64 0, .int .i64 0, .bool false, .int .i64 0, .int .i64 0, .int .i64 0, .bool false, .int .i64 0, .int .i64 0, .int .i64 0, .bool false, .int .i64 0, .int .i64 0, .int .i64 0, .bool false, .int .i64 0, .int .i64 0, .int .i64 0] 125) := ⟨_, rfl⟩
  rw [← hw74]
  have A74 := hid (SetAlloc.of hw74)
  have K74 := hid (show w74.heap[S4]? = some (.cells #[.slice (some ⟨k63, 0, none⟩) 2 2, .slice (some ⟨k63 + 1 + 1 + 1, 0, none⟩) 2 2, .slice (some ⟨w73.heap.size, 0, none⟩) 6 6] 35 (0, 0)) from A74.out.row rc)
  have z74 : w74.heap.size ≤ w73.heap.size + 1 ∧ w73.heap.size + 1 ≤ w74.heap.size := by have := A74.out.size; omega
  clear hw74 rc d0 f0 l1
  have CC74 := hid (show Chg (fun b => b = k58 ∨ b = k59 + 1 + 1 + 1 ∨ b = k60 + 1 + 1 + 1 ∨ b = T ∨ b = S4) wD w74 from (CC73.out.mono fun b h => by omega).trans (A74.out.chg.mono fun b h => by omega))
  -- wide.Heaps = []Range{between(0, 99), between(0, 20)}
  go_wp2_with fail
  refine (between_any 0 99 w74).mono ?_
  rintro e w75 ⟨rfl, hb75⟩
  go_wp2_with fail
  refine (between_any 0 20 w75).mono ?_
  rintro e w76 ⟨rfl, hb76⟩
  have F76 := hid (below_after hb75 hb76 (Nat.le_refl _))
  have z76 := F76.out.size
  clear hb75 hb76
  have CC76 := hid (CC74.out.trans (chg_of_below F76.out))
  have rc := row_chg X5.out CC76.out (by omega)
  have d0 := cell_of_row rc 0
  have f0 := frozen_of_row rc 0
  simp only [List.getElem?_toArray, List.getElem?_cons_zero] at d0
  have l1 : S5 < w76.heap.size := by omega
  go_upto_region 23 with fail
  obtain ⟨wE, hwE⟩ : ∃ w', w' = (w76.setCell ⟨S5, 0, none⟩ (.slice (some ⟨w76.heap.size, 0, none⟩) 2 2)).alloc (Obj.cells #[.int .i64 0, .int .i64 99, .int .i64 0, .int .i64 20] 58) := ⟨_, rfl⟩
  rw [← hwE]
  have AE := hid (SetAlloc.of hwE)
  have KE := hid (show wE.heap[S5]? = some (.cells #[.slice (some ⟨w76.heap.size, 0, none⟩) 2 2, .slice (some ⟨k64 + 1 + 1 + 1, 0, none⟩) 2 2, .slice none 0 0] 35 (0, 0)) from AE.out.row rc)
  have zE : wE.heap.size ≤ w76.heap.size + 1 ∧ w76.heap.size + 1 ≤ wE.heap.size := by have := AE.out.size; omega
  clear hwE rc d0 f0 l1
  have hCE := CC76.out.mono (T' := fun b => b = k58 ∨ b = k59 + 1 + 1 + 1 ∨ b = k60 + 1 + 1 + 1 ∨ b = T ∨ b = S4 ∨ b = S5) (fun b h => by omega)
  have hCE := hCE.trans (AE.out.chg.mono fun b h => by omega)
  have GE := AE.out.chg.mono (T' := fun b => b = S5) (fun b h => h)
  have G74 := (chg_of_below (T := fun b => b = S5) F76.out).trans GE
  have G73 := (A74.out.chg.mono (T' := fun b => b = S4 ∨ b = S5) fun b h => .inl h).trans (G74.mono fun b h => .inr h)
  have G72 := (C73.out.mono (T' := fun b => b = T ∨ b = S4 ∨ b = S5) fun b h => .inl h).trans (G73.mono fun b h => .inr h)
  have G71 := (A72.out.chg.mono (T' := fun b => b = k60 + 1 + 1 + 1 ∨ b = T ∨ b = S4 ∨ b = S5) fun b h => .inl h).trans (G72.mono fun b h => .inr h)
  have G70 := (A71.out.chg.mono (T' := fun b => b = k59 + 1 + 1 + 1 ∨ b = k60 + 1 + 1 + 1 ∨ b = T ∨ b = S4 ∨ b = S5) fun b h => .inl h).trans (G71.mono fun b h => .inr h)
  -- the six cellars
  have Y0 := row_chg X0.out hCE (by omega)
  have Y1 := row_chg X1.out hCE (by omega)
  have Y2 := row_chg X2.out hCE (by omega)
  have Y3 := row_chg X3.out hCE (by omega)
  have Y4 := row_chg K74.out G74 (by omega)
  have Y5 := KE.out
  have HC0 := hid (show CeV (Lt wE.heap.size) wE (.agg #[.slice (some ⟨k58, 0, none⟩) 2 2, .slice (some ⟨k58 + 1 + 1 + 1, 0, none⟩) 2 2, .slice none 0 0]) ⟨[⟨40, 101⟩, ⟨60, 63⟩], [[10, 10], [5, 15]], []⟩ from
    ce_of_rows (h := k58) (k := k58 + 1 + 1 + 1) (a := k58 + 1) (b := k58 + 1 + 1) (hs := [⟨40, 101⟩, ⟨60, 63⟩]) (la := [10, 10]) (lb := [5, 15]) (ts := []) (row_chg K70.out G70 (by omega)) rfl (row_chg M58.out.casks hCE (by omega)) (row_chg M58.out.one hCE (by omega)) rfl (row_chg M58.out.two hCE (by omega)) rfl Sl.nil)
  have HC1 := hid (show CeV (Lt wE.heap.size) wE (.agg #[.slice (some ⟨k59, 0, none⟩) 2 2, .slice (some ⟨k59 + 1 + 1 + 1, 0, none⟩) 2 2, .slice none 0 0]) ⟨[⟨40, 42⟩, ⟨60, 63⟩], [[10], [5, 15]], []⟩ from
    ce_of_rows (h := k59) (k := k59 + 1 + 1 + 1) (a := w70.heap.size) (b := k59 + 1 + 1) (hs := [⟨40, 42⟩, ⟨60, 63⟩]) (la := [10]) (lb := [5, 15]) (ts := []) (row_chg M59.out.heaps hCE (by omega)) rfl (row_chg K71.out G71 (by omega)) (row_chg A71.out.new G71 (by omega)) rfl (row_chg M59.out.two hCE (by omega)) rfl Sl.nil)
  have HC2 := hid (show CeV (Lt wE.heap.size) wE (.agg #[.slice (some ⟨k60, 0, none⟩) 2 2, .slice (some ⟨k60 + 1 + 1 + 1, 0, none⟩) 2 2, .slice none 0 0]) ⟨[⟨40, 42⟩, ⟨60, 63⟩], [[10, 10], [0, 0]], []⟩ from
    ce_of_rows (h := k60) (k := k60 + 1 + 1 + 1) (a := k60 + 1) (b := w71.heap.size) (hs := [⟨40, 42⟩, ⟨60, 63⟩]) (la := [10, 10]) (lb := [0, 0]) (ts := []) (row_chg M60.out.heaps hCE (by omega)) rfl (row_chg K72.out G72 (by omega)) (row_chg M60.out.one hCE (by omega)) rfl (row_chg A72.out.new G72 (by omega)) rfl Sl.nil)
  have HC3 := hid (show CeV (Lt wE.heap.size) wE (.agg #[.slice (some ⟨k62, 0, none⟩) 2 2, .slice (some ⟨k62 + 1 + 1 + 1, 0, none⟩) 2 2, .slice (some ⟨T, 0, none⟩) 1 1]) ⟨[⟨40, 42⟩, ⟨60, 63⟩], [[10, 10], [5, 15]], [⟨true, 2, ⟨52, 52⟩⟩]⟩ from
    ce_of_rows (h := k62) (k := k62 + 1 + 1 + 1) (a := k62 + 1) (b := k62 + 1 + 1) (hs := [⟨40, 42⟩, ⟨60, 63⟩]) (la := [10, 10]) (lb := [5, 15]) (ts := [⟨true, 2, ⟨52, 52⟩⟩]) (row_chg M62.out.heaps hCE (by omega)) rfl (row_chg M62.out.casks hCE (by omega)) (row_chg M62.out.one hCE (by omega)) rfl (row_chg M62.out.two hCE (by omega)) rfl
      (tls_row (b := T) (ts := [⟨true, 2, ⟨52, 52⟩⟩]) (row_chg K73.out G73 (by omega)) rfl))
  have HC4 := hid (show CeV (Lt wE.heap.size) wE (.agg #[.slice (some ⟨k63, 0, none⟩) 2 2, .slice (some ⟨k63 + 1 + 1 + 1, 0, none⟩) 2 2, .slice (some ⟨w73.heap.size, 0, none⟩) 6 6]) ⟨[⟨40, 42⟩, ⟨60, 63⟩], [[10, 10], [5, 15]], [⟨false, 0, ⟨0, 0⟩⟩, ⟨false, 0, ⟨0, 0⟩⟩, ⟨false, 0, ⟨0, 0⟩⟩, ⟨false, 0, ⟨0, 0⟩⟩, ⟨false, 0, ⟨0, 0⟩⟩, ⟨false, 0, ⟨0, 0⟩⟩]⟩ from
    ce_of_rows (h := k63) (k := k63 + 1 + 1 + 1) (a := k63 + 1) (b := k63 + 1 + 1) (hs := [⟨40, 42⟩, ⟨60, 63⟩]) (la := [10, 10]) (lb := [5, 15]) (ts := [⟨false, 0, ⟨0, 0⟩⟩, ⟨false, 0, ⟨0, 0⟩⟩, ⟨false, 0, ⟨0, 0⟩⟩, ⟨false, 0, ⟨0, 0⟩⟩, ⟨false, 0, ⟨0, 0⟩⟩, ⟨false, 0, ⟨0, 0⟩⟩]) (row_chg M63.out.heaps hCE (by omega)) rfl (row_chg M63.out.casks hCE (by omega)) (row_chg M63.out.one hCE (by omega)) rfl (row_chg M63.out.two hCE (by omega)) rfl
      (tls_row (b := w73.heap.size) (ts := [⟨false, 0, ⟨0, 0⟩⟩, ⟨false, 0, ⟨0, 0⟩⟩, ⟨false, 0, ⟨0, 0⟩⟩, ⟨false, 0, ⟨0, 0⟩⟩, ⟨false, 0, ⟨0, 0⟩⟩, ⟨false, 0, ⟨0, 0⟩⟩]) (row_chg A74.out.new G74 (by omega)) rfl))
  have HC5 := hid (show CeV (Lt wE.heap.size) wE (.agg #[.slice (some ⟨w76.heap.size, 0, none⟩) 2 2, .slice (some ⟨k64 + 1 + 1 + 1, 0, none⟩) 2 2, .slice none 0 0]) ⟨[⟨0, 99⟩, ⟨0, 20⟩], [[10, 10], [5, 15]], []⟩ from
    ce_of_rows (h := w76.heap.size) (k := k64 + 1 + 1 + 1) (a := k64 + 1) (b := k64 + 1 + 1) (hs := [⟨0, 99⟩, ⟨0, 20⟩]) (la := [10, 10]) (lb := [5, 15]) (ts := []) AE.out.new rfl (row_chg M64.out.casks hCE (by omega)) (row_chg M64.out.one hCE (by omega)) rfl (row_chg M64.out.two hCE (by omega)) rfl Sl.nil)
  have HC6 := hid (show CeV (Lt wE.heap.size) wE (.agg #[.slice none 0 0, .slice none 0 0, .slice none 0 0]) ⟨[], [], []⟩ from ⟨_, _, _, rfl, Sl.nil, ⟨[], rfl, Sl.nil, fun j x l h => by simp at h⟩, Sl.nil⟩)
  have HBE := hid (HBD.out.trans (hCE.below (n := w0.heap.size) (by have := HBD.out.size; omega) (fun b hb e => by omega)))
  have HSE := hid (fun w' (h : Below wE.heap.size wE w') => ⟨row_grow Y0 h, row_grow Y1 h, row_grow Y2 h, row_grow Y3 h, row_grow Y4 h, row_grow Y5 h⟩ :
    ∀ w', Below wE.heap.size wE w' → w'.heap[S0]? = _ ∧ w'.heap[S1]? = _ ∧ w'.heap[S2]? = _ ∧ w'.heap[S3]? = _ ∧ w'.heap[S4]? = _ ∧ w'.heap[S5]? = _)
  clear Y0 Y1 Y2 Y3 Y4 Y5 GE G70 G71 G72 G73 G74 hCE M58 M59 M60 M62 M63 M64 MT X0 X1 X2 X3 X4 X5 K70 K71 K72 K73 K74 KE A71 A72 A74 AE C70 C73 CC71 CC72 CC73 CC74 CC76 F76 HBD
  have HZE := hid (Below.refl wE.heap.size wE)
  have zHZE : wE.heap.size ≤ wE.heap.size := Nat.le_refl _
  have sr := (HSE.out wE HZE.out).1
  have s0 := cell_of_row sr 0
  have s1 := cell_of_row sr 1
  have s2 := cell_of_row sr 2
  simp only [List.getElem?_toArray, List.getElem?_cons_zero, List.getElem?_cons_succ] at s0 s1 s2
  clear sr
  go_wp2_with fail
  refine (nCheck (f := 1) _ (by decide +kernel) (by decide +kernel) _ wE.heap.size wE zHZE (HC0.out.below HZE.out)).mono ?_
  rintro e w80 ⟨rfl, hb80⟩
  have HZ80 := hid (below_after HZE.out hb80 (Nat.le_refl _))
  have zHZ80 := HZ80.out.size
  clear hb80 s0 s1 s2
  have sr := (HSE.out w80 HZ80.out).2.1
  have s0 := cell_of_row sr 0
  have s1 := cell_of_row sr 1
  have s2 := cell_of_row sr 2
  simp only [List.getElem?_toArray, List.getElem?_cons_zero, List.getElem?_cons_succ] at s0 s1 s2
  clear sr
  go_wp2_with fail
  refine (nCheck (f := 1) _ (by decide +kernel) (by decide +kernel) _ wE.heap.size w80 zHZ80 (HC1.out.below HZ80.out)).mono ?_
  rintro e w81 ⟨rfl, hb81⟩
  have HZ81 := hid (below_after HZ80.out hb81 (Nat.le_refl _))
  have zHZ81 := HZ81.out.size
  clear hb81 s0 s1 s2
  have sr := (HSE.out w81 HZ81.out).2.2.1
  have s0 := cell_of_row sr 0
  have s1 := cell_of_row sr 1
  have s2 := cell_of_row sr 2
  simp only [List.getElem?_toArray, List.getElem?_cons_zero, List.getElem?_cons_succ] at s0 s1 s2
  clear sr
  go_wp2_with fail
  refine (nCheck (f := 1) _ (by decide +kernel) (by decide +kernel) _ wE.heap.size w81 zHZ81 (HC2.out.below HZ81.out)).mono ?_
  rintro e w82 ⟨rfl, hb82⟩
  have HZ82 := hid (below_after HZ81.out hb82 (Nat.le_refl _))
  have zHZ82 := HZ82.out.size
  clear hb82 s0 s1 s2
  have sr := (HSE.out w82 HZ82.out).2.2.2.1
  have s0 := cell_of_row sr 0
  have s1 := cell_of_row sr 1
  have s2 := cell_of_row sr 2
  simp only [List.getElem?_toArray, List.getElem?_cons_zero, List.getElem?_cons_succ] at s0 s1 s2
  clear sr
  go_wp2_with fail
  refine (nCheck (f := 1) _ (by decide +kernel) (by decide +kernel) _ wE.heap.size w82 zHZ82 (HC3.out.below HZ82.out)).mono ?_
  rintro e w83 ⟨rfl, hb83⟩
  have HZ83 := hid (below_after HZ82.out hb83 (Nat.le_refl _))
  have zHZ83 := HZ83.out.size
  clear hb83 s0 s1 s2
  have sr := (HSE.out w83 HZ83.out).2.2.2.2.1
  have s0 := cell_of_row sr 0
  have s1 := cell_of_row sr 1
  have s2 := cell_of_row sr 2
  simp only [List.getElem?_toArray, List.getElem?_cons_zero, List.getElem?_cons_succ] at s0 s1 s2
  clear sr
  go_wp2_with fail
  refine (nCheck (f := 3) _ (by decide +kernel) (by decide +kernel) _ wE.heap.size w83 zHZ83 (HC4.out.below HZ83.out)).mono ?_
  rintro e w84 ⟨rfl, hb84⟩
  have HZ84 := hid (below_after HZ83.out hb84 (Nat.le_refl _))
  have zHZ84 := HZ84.out.size
  clear hb84 s0 s1 s2
  have sr := (HSE.out w84 HZ84.out).2.2.2.2.2
  have s0 := cell_of_row sr 0
  have s1 := cell_of_row sr 1
  have s2 := cell_of_row sr 2
  simp only [List.getElem?_toArray, List.getElem?_cons_zero, List.getElem?_cons_succ] at s0 s1 s2
  clear sr
  go_wp2_with fail
  refine (nCheck (f := 3) _ (by decide +kernel) (by decide +kernel) _ wE.heap.size w84 zHZ84 (HC5.out.below HZ84.out)).mono ?_
  rintro e w85 ⟨rfl, hb85⟩
  have HZ85 := hid (below_after HZ84.out hb85 (Nat.le_refl _))
  have zHZ85 := HZ85.out.size
  clear hb85 s0 s1 s2
  go_wp2_with fail
  refine (nCheck (f := 1) _ (by decide +kernel) (by decide +kernel) _ wE.heap.size w85 zHZ85 (HC6.out.below HZ85.out)).mono ?_
  rintro e w86 ⟨rfl, hb86⟩
  have HZ86 := hid (below_after HZ85.out hb86 (Nat.le_refl _))
  clear hb86
  go_wp2_with fail
  refine (awake_any w86).mono ?_
  rintro e w87 ⟨rfl, hb87⟩
  have HBZ := hid (below_after (below_after HBE.out HZ86.out (Nat.le_refl _)) hb87 (Nat.le_refl _))
  clear HSE HBE hb87
  go_wp2_with fail
  go_ret
  exact ⟨rfl, HBZ.out⟩
end Go.Proofs.Ytjddcaimjofihaa
