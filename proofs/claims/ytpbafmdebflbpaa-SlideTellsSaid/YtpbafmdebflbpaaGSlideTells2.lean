/- slide: the law SlideTells: the walk. -/
import Derived.Test.YtpbafmdebflbpaaGSlideTells1
set_option linter.unusedSimpArgs false
set_option linter.unusedVariables false
namespace Go.Proofs.Ytpbafmdebflbpaa
open Go.RowKit Go.Maps

theorem doneS_len {ws : List Int} {pre : List (Nat × Nat)} {L : List Int} {l : List Int} (h : ∀ i ∈ l, (rawO ws pre 1 i).length = 1 + lenO pre i) : (l.flatMap (doneS ws pre L)).length = sumO pre l := by
  induction l with
  | nil => rfl
  | cons a l ih =>
    have h1 := h a (by simp)
    have h2 := ih (fun i hi => h i (by simp [hi]))
    unfold rawO at h1
    unfold sumO at *
    simp only [List.flatMap_cons, List.length_append, List.map_cons, List.sum_cons]
    rw [h2]
    unfold doneS
    simp only [List.length_cons, List.length_map] at h1 ⊢
    omega

set_option maxRecDepth 100000 in
set_option maxHeartbeats 8000000 in
theorem slideTells_walk (w : World) (AW AR : Option Addr) (nW cW nR cR : Nat) (ws rs : List Int) (hW : WsIn w AW nW cW ws) (hR : WsIn w AR nR cR rs) :
    Calls Try.prog 12 #[.agg #[.slice AW nW cW, .slice AR nR cR]] w fun e w' => e = .returned (.bool true) ∧ Below w.heap.size w w' := by
  have hB0 : Below w.heap.size w (w.alloc (.cells #[.slice AW nW cW, .slice AR nR cR] 55)) := (Below.refl _ w).alloc (Nat.le_refl _) _
  have BA := hide (Blk.new w 55 #[.slice AW nW cW, .slice AR nR cR])
  have HB0 := hide hB0
  have C4 := hide (fun w' (hb : Below w.heap.size w w') => refAcheck_any w' AW AR nW cW nR cR ws rs (hW.below hb) (hR.below hb))
  by_cases hz : acheck nW nR ws rs = 0
  · have C1 := hide (slide_ok _ AW AR nW cW nR cR ws rs (hW.below hB0) (hR.below hB0) hz)
    have C2 := hide (fun w' (hb : Below w.heap.size w w') => refSlide_any w' AW AR nW cW nR cR ws rs (hW.below hb) (hR.below hb) hz)
    rw [hz] at C4
    obtain ⟨h1, h2, h3, h4⟩ := acheck_zero hz
    have hgl : (graphOf ws (parse nW ws 0).1).length = (parse nW ws 0).1.length := by unfold graphOf; rw [List.length_map]
    have hG := good_of_check h4
    have hGW : ∀ x ∈ rs ++ fieldsOf ws (parse nW ws 0).1, GoodW (parse nW ws 0).1 x := fun x hx => by
      have hb : 0 ≤ x ∧ x ≤ 18446744073709551615 := by
        rcases List.mem_append.1 hx with h | h
        · exact hR.wf x h
        · obtain ⟨p, _, hp⟩ := List.mem_flatMap.1 h
          exact hW.wf x (List.mem_of_mem_drop (List.mem_of_mem_take hp))
      exact ⟨hb.1, hb.2, hG.e x hx, hG.ix x hx⟩
    have hw0 : ∀ x ∈ ws, 0 ≤ x := fun x hx => (hW.wf x hx).1
    have hvg : ∀ fs ∈ graphOf ws (parse nW ws 0).1, ValsOk (graphOf ws (parse nW ws 0).1).length fs := by rw [hgl]; exact ValsOk.of_graph fun x hx => hGW x (List.mem_append_right _ hx)
    have hvr : ValsOk (graphOf ws (parse nW ws 0).1).length (rs.map (turnW (ixOf (parse nW ws 0).1))) := by rw [hgl]; exact good_vals fun x hx => hGW x (List.mem_append_left _ hx)
    have hOK := reach_ok (gs := graphOf ws (parse nW ws 0).1) (vs := rs.map (turnW (ixOf (parse nW ws 0).1)))
    rw [hgl] at hOK
    have hsum := sumO_le hw0 hOK
    have hdl := doneS_len (ws := ws) (pre := (parse nW ws 0).1) (L := reachR (graphOf ws (parse nW ws 0).1) (rs.map (turnW (ixOf (parse nW ws 0).1)))) (l := reachR (graphOf ws (parse nW ws 0).1) (rs.map (turnW (ixOf (parse nW ws 0).1)))) (fun i hi => (rawO_len (nW := nW) hw0 (hOK.rng i hi).1 (hOK.rng i hi).2).1)
    obtain ⟨L, hL⟩ : ∃ L, reachR (graphOf ws (parse nW ws 0).1) (rs.map (turnW (ixOf (parse nW ws 0).1))) = L := ⟨_, rfl⟩
    simp only [hL] at C1 C2 hsum hdl
    obtain ⟨xs, hxs⟩ : ∃ xs, L.flatMap (doneS ws (parse nW ws 0).1 L) = xs := ⟨_, rfl⟩
    obtain ⟨ys, hys⟩ : ∃ ys, rs.map (transW (parse nW ws 0).1 L) = ys := ⟨_, rfl⟩
    have hyl : ys.length ≤ 1000 := by rw [← hys, List.length_map, hR.len]; omega
    simp only [hxs, hys] at C1 C2 hdl
    have hxl : xs.length ≤ 1000 := by have := hW.len; omega
    clear hz h1 h2 h3 h4 hgl hG hGW hw0 hvg hvr hOK hsum hdl hL hxs hys hB0
    go_enter Try.func12, Try.ntmps12
    go_wp2_with fail
    refine C1.out.mono ?_
    rintro e w1 ⟨v, rfl, hb1, hAr1⟩
    obtain ⟨X1, m1, e1, X2, m2, e2, rfl, k1, k2⟩ := hAr1
    have bA1 := (BA.out.below_ hb1).alloc (.cells #[.slice X1 m1 e1, .slice X2 m2 e2] 55)
    have hB1 := HB0.out.trans (hb1.mono HB0.out.size)
    have hB1' := hB1.alloc hB1.size (.cells #[.slice X1 m1 e1, .slice X2 m2 e2] 55)
    have bV1 := Blk.new w1 55 #[.slice X1 m1 e1, .slice X2 m2 e2]
    have hAr1 : ArenaRd w (w1.alloc (.cells #[.slice X1 m1 e1, .slice X2 m2 e2] 55)) (.agg #[.slice X1 m1 e1, .slice X2 m2 e2]) xs ys := ⟨_, _, _, _, _, _, rfl, (k1.below ((Below.refl _ w1).alloc (Nat.le_refl _) _)).more (fun g _ h => by simp at h; omega), (k2.below ((Below.refl _ w1).alloc (Nat.le_refl _) _)).more (fun g _ h => by simp at h; omega)⟩
    obtain ⟨a1, a2, a3⟩ := bA1.rules
    have HB1 := hide hB1'
    have BA1 := hide bA1
    have BV1 := hide bV1
    have HAr1 := hide hAr1
    clear hb1 hB1 hB1' bA1 bV1 k1 k2 hAr1 HB0 BA C1
    go_wp2_with fail
    refine (C4.out _ HB1.out).mono ?_
    rintro e w2 ⟨rfl, hb2⟩
    have hB2 := HB1.out.trans (hb2.mono HB1.out.size)
    have bA2 := BA1.out.below_ hb2
    have bV2 := BV1.out.below_ hb2
    have hAr2 : ArenaRd w w2 (.agg #[.slice X1 m1 e1, .slice X2 m2 e2]) xs ys := by
      obtain ⟨_, _, _, _, _, _, h, p1, p2⟩ := HAr1.out
      exact ⟨_, _, _, _, _, _, h, p1.below hb2, p2.below hb2⟩
    clear a1 a2 a3
    have u5 : w2.cell? ⟨w.heap.size, 0, none⟩ = some (.slice AW nW cW) := by rw [bA2.cell]; rfl
    have u6 : w2.cell? ⟨w.heap.size, 1, none⟩ = some (.slice AR nR cR) := by rw [bA2.cell]; rfl
    have v5 : w2.cell? ⟨w1.heap.size, 0, none⟩ = some (.slice X1 m1 e1) := by rw [bV2.cell]; rfl
    have v6 : w2.cell? ⟨w1.heap.size, 1, none⟩ = some (.slice X2 m2 e2) := by rw [bV2.cell]; rfl
    have HB2 := hide hB2
    have HAr2 := hide hAr2
    have BV2 := hide bV2
    clear hb2 hB2 bA2 bV2 hAr2 HB1 BA1 BV1 HAr1 C4
    go_wp2_with fail
    go_region_law (first
      | (try go_simp
         go_at_call 51
         refine (C2.out w2.drew HB2.out.drew).mono ?_
         rintro e w3 ⟨va, rfl, hb3, hAr3⟩
         have hB3 := HB2.out.drew.trans (hb3.mono HB2.out.size)
         have bV3 := BV2.out.drew.below_ hb3
         (have d5 : w3.cell? ⟨w1.heap.size, 0, none⟩ = some (.slice X1 m1 e1) := by rw [bV3.cell]; rfl)
         (have d6 : w3.cell? ⟨w1.heap.size, 1, none⟩ = some (.slice X2 m2 e2) := by rw [bV3.cell]; rfl)
         (have hAr3' : ArenaRd w w3 (.agg #[.slice X1 m1 e1, .slice X2 m2 e2]) xs ys := by
            obtain ⟨_, _, _, _, _, _, h, p1, p2⟩ := HAr2.out
            exact ⟨_, _, _, _, _, _, h, (p1.below (Below.refl _ w2).drew).below hb3, (p2.below (Below.refl _ w2).drew).below hb3⟩))
      | (try go_simp
         go_at_call 28
         refine (arenas_any w3 w w2.drew _ _ xs ys hxl hyl hAr3' hAr3).mono ?_
         rintro e w4 ⟨rfl, hb4⟩
         have hB4 := hB3.trans (hb4.mono hB3.size)))
    all_goals
      go_wp2_with fail
      go_ret
      exact ⟨rfl, hB4⟩
  · have C1 := hide (slide_bad _ AW AR nW cW nR cR ws rs (hW.below hB0) (hR.below hB0) hz)
    obtain ⟨x, hx⟩ : ∃ x, acheck nW nR ws rs = x := ⟨_, rfl⟩
    rw [hx] at C1 hz
    simp only [hx] at C4
    have y1 : (x != 0) = true := by rw [bne_iff_ne]; exact hz
    clear hz hx hB0
    go_enter Try.func12, Try.ntmps12
    go_wp2_with fail
    refine C1.out.mono ?_
    rintro e w1 ⟨rfl, hb1⟩
    have bA1 := (BA.out.below_ hb1).alloc (.cells #[.slice none 0 0, .slice none 0 0] 55)
    have hB1 := HB0.out.trans (hb1.mono HB0.out.size)
    have hB1' := hB1.alloc hB1.size (.cells #[.slice none 0 0, .slice none 0 0] 55)
    have bV1 := Blk.new w1 55 #[.slice none 0 0, .slice none 0 0]
    obtain ⟨a1, a2, a3⟩ := bA1.rules
    have HB1 := hide hB1'
    have BV1 := hide bV1
    clear hb1 hB1 hB1' bA1 bV1 HB0 BA C1
    go_wp2_with fail
    refine (C4.out _ HB1.out).mono ?_
    rintro e w2 ⟨rfl, hb2⟩
    have hB2 := HB1.out.trans (hb2.mono HB1.out.size)
    have bV2 := BV1.out.below_ hb2
    clear a1 a2 a3
    obtain ⟨v1, v2, v3⟩ := bV2.rules
    have HB2 := hide hB2
    clear hb2 hB2 bV2 HB1 BV1 C4
    go_wp2_with fail
    refine (arenas_any w2 w2 w2 _ _ [] [] (by simp) (by simp) (arenas_nil w2) (arenas_nil w2)).mono ?_
    rintro e w3 ⟨rfl, hb3⟩
    have hB3 := HB2.out.trans (hb3.mono HB2.out.size)
    have HB3 := hide hB3
    clear hB3 hb3 v1 v2 v3
    go_wp2_with fail
    go_ret
    exact ⟨rfl, HB3.out⟩
end Go.Proofs.Ytpbafmdebflbpaa
