/- Visits: Visit where it refuses; the law VisitTells: the walk. -/
import Derived.Test.YtpbafmdebflbpaaGVisitTells2
set_option linter.unusedSimpArgs false
set_option linter.unusedVariables false
namespace Go.Proofs.Ytpbafmdebflbpaa
open Go.RowKit

set_option maxRecDepth 100000 in
set_option maxHeartbeats 4000000 in
theorem visitTop_bad (w : World) (AW AR : Option Addr) (nW cW nR cR : Nat) (ws rs : List Int) (hW : WsIn w AW nW cW ws) (hR : WsIn w AR nR cR rs) (hz : acheck nW nR ws rs ≠ 0) :
    Calls Try.prog 43 #[.agg #[.slice AW nW cW, .slice AR nR cR]] w fun e w' => e = .returned (.tuple #[.agg #[.slice none 0 0, .slice none 0 0], .slice none 0 0, .int .i64 (acheck nW nR ws rs)]) ∧ Below w.heap.size w w' := by
  have hS0 := ((Sep.nil No w).blkAt 55 #[.slice AW nW cW, .slice AR nR cR] rfl).blkAt 55 #[.slice none 0 0, .slice none 0 0] (g := w.heap.size + 1) (by simp)
  obtain ⟨a1, a2, a3, a4⟩ := hS0.rules 0 (g := w.heap.size) (t := 55) rfl
  have HS0 := hide hS0
  have C1 := hide (arenaCheck_any _ AW AR nW cW nR cR ws rs (hW.below hS0.below_) (hR.below hS0.below_))
  obtain ⟨x, hx⟩ : ∃ x, acheck nW nR ws rs = x := ⟨_, rfl⟩
  rw [hx] at C1 hz ⊢
  have y1 : (x != 0) = true := by rw [bne_iff_ne]; exact hz
  clear hS0 hx hz
  go_enter Try.func43, Try.ntmps43
  go_wp2_with fail
  refine C1.out.mono ?_
  rintro e w1 ⟨rfl, hb1⟩
  have hS1 := HS0.out.below hb1
  have HS1 := hide hS1
  clear a1 a2 a3 a4
  obtain ⟨q1, q2, q3, q4⟩ := hS1.rules 1 (g := w.heap.size + 1) (t := 55) rfl
  clear hS1
  go_wp2_with fail
  have hF := (HS1.out.set_ 1 (g := w.heap.size + 1) (t := 55) rfl 0 (.slice none 0 0)).set_ 1 (g := w.heap.size + 1) (t := 55) rfl 1 (.slice none 0 0)
  refine bodyPost_ret (v := .tuple #[.agg #[.slice none 0 0, .slice none 0 0], .slice none 0 0, .int .i64 x]) (by simp [results, Try.results43, go_sem, q1]) rfl ⟨rfl, hF.below_⟩

set_option maxRecDepth 100000 in
set_option maxHeartbeats 8000000 in
theorem visitTells_bad (w : World) (AW AR : Option Addr) (nW cW nR cR : Nat) (ws rs : List Int) (hW : WsIn w AW nW cW ws) (hR : WsIn w AR nR cR rs) (hz : acheck nW nR ws rs ≠ 0) :
    Calls Try.prog 10 #[.agg #[.slice AW nW cW, .slice AR nR cR]] w fun e w' => e = .returned (.bool true) ∧ Below w.heap.size w w' := by
  have hB0 : Below w.heap.size w (w.alloc (.cells #[.slice AW nW cW, .slice AR nR cR] 55)) := (Below.refl _ w).alloc (Nat.le_refl _) _
  have BA := hide (Blk.new w 55 #[.slice AW nW cW, .slice AR nR cR])
  have HB0 := hide hB0
  have C1 := hide (visitTop_bad _ AW AR nW cW nR cR ws rs (hW.below hB0) (hR.below hB0) hz)
  have C4 := hide (fun w' (hb : Below w.heap.size w w') => refAcheck_any w' AW AR nW cW nR cR ws rs (hW.below hb) (hR.below hb))
  obtain ⟨x, hx⟩ : ∃ x, acheck nW nR ws rs = x := ⟨_, rfl⟩
  rw [hx] at C1 hz
  simp only [hx] at C4
  have y1 : (x != 0) = true := by rw [bne_iff_ne]; exact hz
  clear hz hx hB0
  go_enter Try.func10, Try.ntmps10
  go_wp2_with fail
  refine C1.out.mono ?_
  rintro e w1 ⟨rfl, hb1⟩
  have bA1 := (BA.out.below_ hb1).alloc (.cells #[.slice none 0 0, .slice none 0 0] 55)
  have hB1 := HB0.out.trans (hb1.mono HB0.out.size)
  have hB1' := hB1.alloc hB1.size (.cells #[.slice none 0 0, .slice none 0 0] 55)
  have bV1 := Blk.new w1 55 #[.slice none 0 0, .slice none 0 0]
  obtain ⟨a1, a2, a3⟩ := bA1.rules
  have HB1 := hide hB1'
  have BA1 := hide bA1
  have BV1 := hide bV1
  clear hb1 hB1 hB1' bA1 bV1 HB0 BA C1
  go_wp2_with fail
  refine (C4.out _ HB1.out).mono ?_
  rintro e w3 ⟨rfl, hb3⟩
  have hB3 := HB1.out.trans (hb3.mono HB1.out.size)
  have bV3 := BV1.out.below_ hb3
  clear a1 a2 a3
  obtain ⟨v1, v2, v3⟩ := bV3.rules
  have HB3 := hide hB3
  clear hb3 hB3 bV3 HB1 BV1 BA1 C4
  go_wp2_with fail
  refine (arenas_any w3 w3 w3 _ _ [] [] (by simp) (by simp) (arenas_nil_ w3) (arenas_nil_ w3)).mono ?_
  rintro e w4 ⟨rfl, hb4⟩
  have hB4 := HB3.out.trans (hb4.mono HB3.out.size)
  have HB4 := hide hB4
  clear hB4 hb4 v1 v2 v3
  go_wp2_with fail
  go_ret
  exact ⟨rfl, HB4.out⟩

set_option maxRecDepth 100000 in
set_option maxHeartbeats 16000000 in
theorem visitTells_ok (w : World) (AW AR : Option Addr) (nW cW nR cR : Nat) (ws rs : List Int) (hW : WsIn w AW nW cW ws) (hR : WsIn w AR nR cR rs) (hz : acheck nW nR ws rs = 0) :
    Calls Try.prog 10 #[.agg #[.slice AW nW cW, .slice AR nR cR]] w fun e w' => e = .returned (.bool true) ∧ Below w.heap.size w w' := by
  obtain ⟨h1, h2, h3, h4⟩ := acheck_zero hz
  have hok : ArnOk nW ws := ⟨hW.len, h1, fun x hx => (hW.wf x hx).1, h3⟩
  have hgood := good_arn hW hR hz
  have hgf : ∀ x ∈ fieldsOf ws (parse nW ws 0).1, GoodW (parse nW ws 0).1 x := fun x hx => hgood x (List.mem_append_right _ hx)
  have hgr : ∀ x ∈ rs, GoodW (parse nW ws 0).1 x := fun x hx => hgood x (List.mem_append_left _ hx)
  have hvg := graph_ok hgf
  have hvr : ValsOk (graphOf ws (parse nW ws 0).1).length (rs.map (turnW (ixOf (parse nW ws 0).1))) := by rw [graph_len]; exact good_vals hgr
  have hK : KOk (graphOf ws (parse nW ws 0).1).length [rs.map (turnW (ixOf (parse nW ws 0).1))] := fun us hu => by simp at hu; subst hu; simpa using hvr
  have hRO := (walkN_pre hvg _ [rs.map (turnW (ixOf (parse nW ws 0).1))] [] (Nat.le_refl _) hK (OrdOk.nil _)).2
  have hgl := graph_len (nW := nW) (ws := ws)
  have hpl := pre_len hok
  have hRl := hRO.len
  have hB0 : Below w.heap.size w (w.alloc (.cells #[.slice AW nW cW, .slice AR nR cR] 55)) := (Below.refl _ w).alloc (Nat.le_refl _) _
  have BA := hide (Blk.new w 55 #[.slice AW nW cW, .slice AR nR cR])
  have HB0 := hide hB0
  have C1 := hide (visitTop_ok _ AW AR nW cW nR cR ws rs (hW.below hB0) (hR.below hB0) hz)
  have C6 := hide (fun w' (hb : Below w.heap.size w w') => refMark_any w' AW AR nW cW nR cR ws rs (hW.below hb) (hR.below hb) hz)
  have C7 := hide (fun w' (hb : Below w.heap.size w w') => refVisit_any w' AW AR nW cW nR cR ws rs (hW.below hb) (hR.below hb) hz)
  have C4 := hide (fun w' (hb : Below w.heap.size w w') => refAcheck_any w' AW AR nW cW nR cR ws rs (hW.below hb) (hR.below hb))
  simp only [hz] at C4
  have hxl : (mkW ws (parse nW ws 0).1 (refS nW ws rs)).length ≤ 1000 := by rw [hok.length]; omega
  have hyl : rs.length ≤ 1000 := by rw [hR.len]; omega
  obtain ⟨xs, hxs⟩ : ∃ xs, mkW ws (parse nW ws 0).1 (refS nW ws rs) = xs := ⟨_, rfl⟩
  rw [hxs] at C1 hxl
  simp only [hxs] at C6
  have hll : (plcs (parse nW ws 0).1 (walkN (graphOf ws (parse nW ws 0).1) [rs.map (turnW (ixOf (parse nW ws 0).1))] [])).length ≤ 1000 := by unfold plcs; rw [List.length_map]; omega
  obtain ⟨ls, hls⟩ : ∃ ls, plcs (parse nW ws 0).1 (walkN (graphOf ws (parse nW ws 0).1) [rs.map (turnW (ixOf (parse nW ws 0).1))] []) = ls := ⟨_, rfl⟩
  rw [hls] at C1 hll
  simp only [hls] at C7
  have HXL := hide hxl
  have HYL := hide hyl
  have HLL := hide hll
  clear hz hB0 h1 h2 h3 h4 hxl hyl hxs hll hls hRl hpl hgl hRO hK hvr hvg hgr hgf hgood hok
  go_enter Try.func10, Try.ntmps10
  go_wp2_with fail
  refine C1.out.mono ?_
  rintro e w1 ⟨X1, e1, X2, e2, X3, n3, e3, rfl, hP1⟩
  have hb1 := hP1.below_
  have hn3 : n3 = ls.length := by have := (hP1.rd_ 2 rfl).1; simp [ints] at this; omega
  subst hn3
  have HR1 := hide ((hP1.rd_ 2 rfl).below ((Below.refl _ w1).alloc (Nat.le_refl _) (.cells #[.slice X1 nW e1, .slice X2 nR e2] 55)))
  have hAr0 := arn_rd (hP1.sub (l := [rowI 24 1 X1 nW e1 (u64s xs), rowI 24 1 X2 nR e2 (u64s rs)]) (by simp))
  have bA1 := (BA.out.below_ hb1).alloc (.cells #[.slice X1 nW e1, .slice X2 nR e2] 55)
  have hB1 := HB0.out.trans (hb1.mono HB0.out.size)
  have hB1' := hB1.alloc hB1.size (.cells #[.slice X1 nW e1, .slice X2 nR e2] 55)
  have bV1 := Blk.new w1 55 #[.slice X1 nW e1, .slice X2 nR e2]
  have HAr1 := hide (hAr0.below ((Below.refl _ w1).alloc (Nat.le_refl _) (.cells #[.slice X1 nW e1, .slice X2 nR e2] 55)))
  obtain ⟨a1, a2, a3⟩ := bA1.rules
  have HB1 := hide hB1'
  have BA1 := hide bA1
  have BV1 := hide bV1
  clear hb1 hP1 hAr0 hB1 hB1' bA1 bV1 HB0 BA C1
  go_wp2_with fail
  refine (C4.out _ HB1.out).mono ?_
  rintro e w5 ⟨rfl, hb5⟩
  have hB5 := HB1.out.trans (hb5.mono HB1.out.size)
  have bV5 := BV1.out.below_ hb5
  have bA5 := BA1.out.below_ hb5
  clear a1 a2 a3
  have u5 : w5.cell? ⟨w.heap.size, 0, none⟩ = some (.slice AW nW cW) := by rw [bA5.cell]; rfl
  have u6 : w5.cell? ⟨w.heap.size, 1, none⟩ = some (.slice AR nR cR) := by rw [bA5.cell]; rfl
  have v5 : w5.cell? ⟨w1.heap.size, 0, none⟩ = some (.slice X1 nW e1) := by rw [bV5.cell]; rfl
  have v6 : w5.cell? ⟨w1.heap.size, 1, none⟩ = some (.slice X2 nR e2) := by rw [bV5.cell]; rfl
  have HB5 := hide hB5
  have BV5 := hide bV5
  have BA5 := hide bA5
  have HAr5 := hide (HAr1.out.below hb5)
  have HR5 := hide (HR1.out.below hb5)
  clear hb5 hB5 bV5 bA5 HB1 BV1 BA1 HAr1 HR1 C4
  go_wp2_with fail
  go_region_law (first
    | (try go_simp
       go_at_call 44
       refine (C6.out w5.drew HB5.out.drew).mono ?_
       rintro e w6 ⟨va, rfl, hb6, hAr6⟩
       have HB6 := hide (HB5.out.drew.trans (hb6.mono HB5.out.size))
       have bV6 := BV5.out.drew.below_ hb6
       have bA6 := BA5.out.drew.below_ hb6
       (have d5 : w6.cell? ⟨w1.heap.size, 0, none⟩ = some (.slice X1 nW e1) := by rw [bV6.cell]; rfl)
       (have d6 : w6.cell? ⟨w1.heap.size, 1, none⟩ = some (.slice X2 nR e2) := by rw [bV6.cell]; rfl)
       (have BA6 := hide bA6)
       have HAr6 := hide hAr6
       have HAr6' := hide ((HAr5.out.below (Below.refl _ w5).drew).below hb6)
       have HR6 := hide ((HR5.out.below (Below.refl _ w5).drew).below hb6)
       clear bV6 bA6 hAr6 hb6)
    | (try go_simp
       go_at_call 28
       refine (arenas_any w6 _ w5.drew _ _ xs rs HXL.out HYL.out HAr6'.out HAr6.out).mono ?_
       rintro e w7 ⟨rfl, hb7⟩
       have HB7 := hide (HB6.out.trans (hb7.mono HB6.out.size))
       have bA7 := BA6.out.below_ hb7
       (have f5 : w7.cell? ⟨w.heap.size, 0, none⟩ = some (.slice AW nW cW) := by rw [bA7.cell]; rfl)
       (have f6 : w7.cell? ⟨w.heap.size, 1, none⟩ = some (.slice AR nR cR) := by rw [bA7.cell]; rfl)
       have HR7 := hide (HR6.out.below hb7)
       clear bA7 hb7)
    | (try go_simp
       go_at_call 45
       refine (C7.out w7 HB7.out).mono ?_
       rintro e w8 ⟨A8, n8, c8, rfl, hP8⟩
       (obtain rfl : n8 = ls.length := by have := (hP8.rd_ 0 rfl).1; simp [ints] at this; omega)
       have HB8 := hide (HB7.out.trans (hP8.below_.mono HB7.out.size))
       have HR8 := hide (HR7.out.below hP8.below_)
       have HR8' := hide (hP8.rd_ 0 rfl)
       clear hP8)
    | (try go_simp
       go_at_call 41
       refine (ints_same w8 _ _ _ _ _ _ _ ls (by have := HLL.out; omega) HR8.out HR8'.out).mono ?_
       rintro e w9 ⟨rfl, hb9⟩
       have HB9 := hide (HB8.out.trans (hb9.mono HB8.out.size))
       clear hb9))
  all_goals
    go_wp2_with fail
    go_ret
    exact ⟨rfl, HB9.out⟩

theorem visitTells_walk (w : World) (AW AR : Option Addr) (nW cW nR cR : Nat) (ws rs : List Int) (hW : WsIn w AW nW cW ws) (hR : WsIn w AR nR cR rs) :
    Calls Try.prog 10 #[.agg #[.slice AW nW cW, .slice AR nR cR]] w fun e w' => e = .returned (.bool true) ∧ Below w.heap.size w w' := by
  by_cases hz : acheck nW nR ws rs = 0
  · exact visitTells_ok w AW AR nW cW nR cR ws rs hW hR hz
  · exact visitTells_bad w AW AR nW cW nR cR ws rs hW hR hz
end Go.Proofs.Ytpbafmdebflbpaa
