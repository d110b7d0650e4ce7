/- move: the reference's Move; the law MoveTells: the walk. slide: the reference's Slide. slide: Slide. -/
import Derived.Test.YtpbafmdebflbpaaGMarkTells16
import Derived.Test.YtpbafmdebflbpaaGMarkTells21
import Derived.Deep.RegionHeld3
import Derived.Test.YtpbafmdebflbpaaGMarkTells18
import Derived.Test.YtpbafmdebflbpaaGSlideTells0
set_option linter.unusedSimpArgs false
set_option linter.unusedVariables false
namespace Go.Proofs.Ytpbafmdebflbpaa
open Go.RowKit Go.Maps

theorem ValsOk.of_graph {nW : Nat} {ws : List Int} (h : ∀ x ∈ fieldsOf ws (parse nW ws 0).1, GoodW (parse nW ws 0).1 x) : ∀ fs ∈ graphOf ws (parse nW ws 0).1, ValsOk (parse nW ws 0).1.length fs := by
  intro fs hfs
  obtain ⟨p, hp, rfl⟩ := List.mem_map.1 hfs
  exact good_vals fun x hx => h x (List.mem_flatMap.2 ⟨p, hp, hx⟩)
theorem place_lt {L : List Int} {x : Int} (h : x ∈ L) : placeN L x < L.length := by unfold placeN; rw [if_pos h]; exact List.idxOf_lt_length_of_mem h

set_option maxRecDepth 100000 in
set_option maxHeartbeats 16000000 in
theorem refMove_any (w : World) (AW AR : Option Addr) (nW cW nR cR : Nat) (ws rs : List Int) (hW : WsIn w AW nW cW ws) (hR : WsIn w AR nR cR rs) (hz : acheck nW nR ws rs = 0) :
    Calls Try.prog 33 #[.agg #[.slice AW nW cW, .slice AR nR cR]] w fun e w' => ∃ v, e = .returned v ∧ Below w.heap.size w w' ∧
      ArenaRd w w' v ((order (graphOf ws (parse nW ws 0).1) (rs.map (turnW (ixOf (parse nW ws 0).1)))).flatMap (doneO ws (parse nW ws 0).1 (order (graphOf ws (parse nW ws 0).1) (rs.map (turnW (ixOf (parse nW ws 0).1))))))
        (rs.map (transW (parse nW ws 0).1 (order (graphOf ws (parse nW ws 0).1) (rs.map (turnW (ixOf (parse nW ws 0).1)))))) := by
  obtain ⟨h1, h2, h3, h4⟩ := acheck_zero hz
  have hw0 : ∀ x ∈ ws, 0 ≤ x := fun x hx => (hW.wf x hx).1
  have hG := good_of_check h4
  have hGW : ∀ x ∈ rs ++ fieldsOf ws (parse nW ws 0).1, GoodW (parse nW ws 0).1 x := fun x hx => by
    have hb : 0 ≤ x ∧ x ≤ 18446744073709551615 := by
      rcases List.mem_append.1 hx with h | h
      · exact hR.wf x h
      · obtain ⟨p, _, hp⟩ := List.mem_flatMap.1 h
        exact hW.wf x (List.mem_of_mem_drop (List.mem_of_mem_take hp))
    exact ⟨hb.1, hb.2, hG.e x hx, hG.ix x hx⟩
  have hgl : (graphOf ws (parse nW ws 0).1).length = (parse nW ws 0).1.length := by unfold graphOf; rw [List.length_map]
  have hvg : ∀ fs ∈ graphOf ws (parse nW ws 0).1, ValsOk (graphOf ws (parse nW ws 0).1).length fs := by rw [hgl]; exact ValsOk.of_graph fun x hx => hGW x (List.mem_append_right _ hx)
  have hvr : ValsOk (graphOf ws (parse nW ws 0).1).length (rs.map (turnW (ixOf (parse nW ws 0).1))) := by rw [hgl]; exact good_vals fun x hx => hGW x (List.mem_append_left _ hx)
  have hOK := order_ok hvg hvr
  obtain ⟨hcl, hcr⟩ := order_closed hvg hvr
  rw [hgl] at hOK
  have hfl : ∀ fs ∈ graphOf ws (parse nW ws 0).1, fs.length ≤ 4 := fun fs hfs => by
    obtain ⟨p, hp, rfl⟩ := List.mem_map.1 hfs
    have h5 := parse_mem nW ws 0 p hw0 hp
    have h6 := h5.2.1.1
    rw [h5.2.2.1] at h6
    unfold fieldsAt
    rw [List.length_map, List.length_take]
    omega
  have hpl : (parse nW ws 0).1.length ≤ 256 := by
    have h6 := parse_sum nW ws 0 (by omega) hw0
    have h7 : ∀ m : List (Nat × Nat), m.length ≤ (m.map fun p => 1 + p.2).sum := fun m => by
      induction m with
      | nil => simp
      | cons a m ih => simp only [List.map_cons, List.sum_cons, List.length_cons]; omega
    have h8 := h7 (parse nW ws 0).1
    have h9 := hW.len
    omega
  have hwd := move_words (nW := nW) (ws := ws) 1 hw0 (by rw [hW.len]; exact h1) (fun x hx => hGW x (List.mem_append_right _ hx)) hOK hcl
  have hrd : ((rs.map (turnW (ixOf (parse nW ws 0).1))).map (turnL (order (graphOf ws (parse nW ws 0).1) (rs.map (turnW (ixOf (parse nW ws 0).1)))))).map (packV (atF (renumF (graphOf ws (parse nW ws 0).1) (order (graphOf ws (parse nW ws 0).1) (rs.map (turnW (ixOf (parse nW ws 0).1))))))) = rs.map (transW (parse nW ws 0).1 (order (graphOf ws (parse nW ws 0).1) (rs.map (turnW (ixOf (parse nW ws 0).1))))) := by
    rw [List.map_map, List.map_map]
    refine List.map_congr_left fun x hx => ?_
    refine pack_trans _ hw0 (by rw [hW.len]; exact h1) (hGW x (List.mem_append_left _ hx)) hOK (renum_at hw0 hOK.rng) (fun hr => ?_)
    have h5 := hcr (turnW (ixOf (parse nW ws 0).1) x) (List.mem_map.2 ⟨x, hx, rfl⟩) hr
    have h6 : (turnW (ixOf (parse nW ws 0).1) x).2 = (ixOf (parse nW ws 0).1 (unA x) : Int) := by unfold turnW; rw [hr]; rfl
    rw [h6] at h5
    exact h5
  have hhd : ∀ h ∈ headsAt (headsL ws (parse nW ws 0).1) (order (graphOf ws (parse nW ws 0).1) (rs.map (turnW (ixOf (parse nW ws 0).1)))) 1, HdOk h := fun h hh => by
    obtain ⟨i, hi, rfl⟩ := List.mem_map.1 hh
    refine older_ok (by omega) ?_
    obtain ⟨i0, i1⟩ := hOK.rng i hi
    have hil : i.toNat < (headsL ws (parse nW ws 0).1).length := by unfold headsL; rw [List.length_map]; omega
    rw [List.getD_eq_getElem?_getD, List.getElem?_eq_getElem hil]
    exact headsL_ok hw0 _ (List.getElem_mem hil)
  have C1 := fun w' (hb : Below w.heap.size w w') => refRead_any w' AW AR nW cW nR cR ws rs (hW.below hb) (hR.below hb) hz
  have C4 := fun w' Al nl cl (hb : Below w.heap.size w w') l hl hnl hlr => headsOf_any w' AW AR Al nW cW nR cR nl cl 1 ws l (hW.below hb) h1 h3 hl hnl (by omega) hlr
  have hrl : (rs.map (turnW (ixOf (parse nW ws 0).1))).length ≤ 8 := by rw [List.length_map, hR.len]; exact h2
  rw [← hwd.trans (show _ = (order (graphOf ws (parse nW ws 0).1) (rs.map (turnW (ixOf (parse nW ws 0).1)))).flatMap (doneO ws (parse nW ws 0).1 (order (graphOf ws (parse nW ws 0).1) (rs.map (turnW (ixOf (parse nW ws 0).1))))) from rfl), ← hrd]
  rw [← hgl] at hOK hpl
  have hnum : (parse nW ws 0).1.length = (graphOf ws (parse nW ws 0).1).length := hgl.symm
  simp only [hnum] at C4
  obtain ⟨hs, hhs⟩ : ∃ hs, headsL ws (parse nW ws 0).1 = hs := ⟨_, rfl⟩
  simp only [hhs] at C4 hhd ⊢
  obtain ⟨vs, hvs⟩ : ∃ vs, rs.map (turnW (ixOf (parse nW ws 0).1)) = vs := ⟨_, rfl⟩
  simp only [hvs] at C1 hvr hOK hcl hcr hhd hrl ⊢
  obtain ⟨gs, hgs⟩ : ∃ gs, graphOf ws (parse nW ws 0).1 = gs := ⟨_, rfl⟩
  simp only [hgs] at C1 C4 hvg hvr hOK hcl hcr hfl hpl hhd ⊢
  obtain ⟨L, hL⟩ : ∃ L, order gs vs = L := ⟨_, rfl⟩
  simp only [hL] at hOK hcl hcr hhd ⊢
  have C2 := fun w' v (h : GraphRd w' (fun _ => True) v gs vs) => order_any w' v gs vs h (by omega) (by omega) (fun fs hfs => by have := hfl fs hfs; omega) hvr hvg
  simp only [hL] at C2
  have hLl := hOK.len
  have C3 := fun w' v Al nl cl (h : GraphRd w' (fun _ => True) v gs vs) (hl : Rd w' (fun _ => True) 1 Al nl (ints L)) hnl => renumber_any w' v Al nl cl gs vs L h hl hOK.rng (by omega) hnl (by omega) (fun fs hfs => by have := hfl fs hfs; omega)
  have hrn : (renumF gs L).length = L.length := by unfold renumF; rw [List.length_map]
  have C5 := fun w' v AH nH cH (h : GraphRd w' (fun _ => True) v (renumF gs L) (vs.map (turnL L))) (hH : Rd w' (fun _ => True) 3 AH nH (hcells (headsAt hs L 1))) =>
    refLayG_any w' v AH nH cH (renumF gs L) (vs.map (turnL L)) (headsAt hs L 1) h (by rw [hrn]; unfold headsAt; rw [List.length_map]) hhd hH (by omega) (by rw [List.length_map]; exact hrl) (fun fs hfs => by
      obtain ⟨x, hx, rfl⟩ := List.mem_map.1 hfs
      rw [List.length_map]
      obtain ⟨x0, x1⟩ := hOK.rng x hx
      unfold fieldsI
      rw [List.getD_eq_getElem?_getD, List.getElem?_eq_getElem (by omega)]
      exact hfl _ (List.getElem_mem _)) (fun fs hfs v hv h1 => by
      obtain ⟨x, hx, rfl⟩ := List.mem_map.1 hfs
      obtain ⟨u, hu, rfl⟩ := List.mem_map.1 hv
      rw [hrn]
      unfold turnL at h1 ⊢
      by_cases h9 : u.1 = true
      · rw [if_pos h9]
        have := place_lt (hcl x hx u hu h9)
        dsimp only
        omega
      · rw [if_neg h9] at h1; exact absurd h1 h9) (fun v hv h1 => by
      obtain ⟨u, hu, rfl⟩ := List.mem_map.1 hv
      rw [hrn]
      unfold turnL at h1 ⊢
      by_cases h9 : u.1 = true
      · rw [if_pos h9]
        have := place_lt (hcr u hu h9)
        dsimp only
        omega
      · rw [if_neg h9] at h1; exact absurd h1 h9)
  have HC1 := hide C1
  have HC2 := hide C2
  have HC3 := hide C3
  have HC4 := hide C4
  have HC5 := hide C5
  have HLR := hide hOK.rng
  have hL256 : L.length ≤ 256 := by omega
  have hB0 : Below w.heap.size w ((w.alloc (.cells #[.slice AW nW cW, .slice AR nR cR] 55)).alloc (.cells #[.slice none 0 0, .slice none 0 0] 55)) := ((Below.refl _ w).alloc (Nat.le_refl _) _).alloc (by simp) _
  have b1 := (Blk.new w 55 #[.slice AW nW cW, .slice AR nR cR]).alloc (.cells #[.slice none 0 0, .slice none 0 0] 55)
  have b2 := Blk.new (w.alloc (.cells #[.slice AW nW cW, .slice AR nR cR] 55)) 55 #[.slice none 0 0, .slice none 0 0]
  rw [World.size_alloc] at b2
  have HB := hide hB0
  have HA := hide b1
  have HR := hide b2
  clear C1 C2 C3 C4 C5 hOK hwd hrd hnum hhs hvs hgs hL hG hGW hgl hvg hvr hcl hcr hfl hpl hhd hrl hLl hrn hz h1 h2 h3 h4 hw0 hB0 b1 b2
  go_enter Try.func33, Try.ntmps33
  go_wp2_with fail
  refine (HC1.out _ HB.out).mono ?_
  rintro e w1 ⟨v, rfl, hb1, hG1⟩
  obtain ⟨AO, nO, cO, Ag, ng, cg, obs, rfl, g1, g2, g3⟩ := hG1.ex
  have hA1 := (HA.out.below_ hb1).alloc (.cells #[.slice AO nO cO, .slice Ag ng cg] 52)
  have hR1 := (HR.out.below_ hb1).alloc (.cells #[.slice AO nO cO, .slice Ag ng cg] 52)
  have hV1 := Blk.new w1 52 #[.slice AO nO cO, .slice Ag ng cg]
  have hB1 := HB.out.trans (hb1.mono HB.out.size)
  have hB1' := hB1.alloc hB1.size (.cells #[.slice AO nO cO, .slice Ag ng cg] 52)
  have hG1' : GraphRd (w1.alloc (.cells #[.slice AO nO cO, .slice Ag ng cg] 52)) (fun _ => True) (.agg #[.slice AO nO cO, .slice Ag ng cg]) gs vs := (GraphRd.more hG1 (fun _ _ _ => trivial)).below ((Below.refl _ w1).alloc (Nat.le_refl _) _)
  have HB1 := hide hB1'
  have HA1 := hide hA1
  have HR1 := hide hR1
  have HV1 := hide hV1
  have HG1 := hide hG1'
  clear hA1 hR1 hV1 hB1 hB1' hG1 hG1' g1 g2 g3 hb1 HB HA HR HC1
  go_wp2_with fail
  refine (HC2.out _ _ HG1.out).mono ?_
  rintro e w2 ⟨Al, nl, cl, rfl, hP⟩
  have hb2 := hP.below_
  have hnl : L.length = nl := by have := (hP.rd_ 0 rfl).1; simpa using this
  have HB2 := hide (HB1.out.trans (hb2.mono HB1.out.size))
  have HA2 := hide (HA1.out.below_ hb2)
  have HR2 := hide (HR1.out.below_ hb2)
  have HV2 := hide (HV1.out.below_ hb2)
  have HG2 := hide (HG1.out.below hb2)
  have HL2 := hide (hP.rd_ 0 rfl)
  obtain ⟨v1, v2, v3⟩ := HV2.out.rules
  obtain ⟨u1, u2, u3⟩ := HA2.out.rules
  have v5 : w2.cell? ⟨w1.heap.size, 0, none⟩ = some (.slice AO nO cO) := by rw [v1]; rfl
  have v6 : w2.cell? ⟨w1.heap.size, 1, none⟩ = some (.slice Ag ng cg) := by rw [v1]; rfl
  have u5 : w2.cell? ⟨w.heap.size, 0, none⟩ = some (.slice AW nW cW) := by rw [u1]; rfl
  have u6 : w2.cell? ⟨w.heap.size, 1, none⟩ = some (.slice AR nR cR) := by rw [u1]; rfl
  clear hb2 hP v1 v2 v3 u1 u2 u3 HB1 HA1 HR1 HV1 HG1 HC2
  go_wp2_with fail
  go_region_law (first
    | (try go_simp
       go_at_call 68
       refine (HC3.out w2.drew _ Al nl cl (HG2.out.below (Below.refl _ w2).drew) (HL2.out.below (Below.refl _ w2).drew) (by omega)).mono ?_
       rintro e w3 ⟨vr, rfl, hb3, hG3⟩
       have hB3 := HB2.out.drew.trans (hb3.mono HB2.out.size)
       have hA3 := HA2.out.drew.below_ hb3
       have hR3 := HR2.out.drew.below_ hb3
       have hL3 := (HL2.out.below (Below.refl _ w2).drew).below hb3
       (have d5 : w3.cell? ⟨w.heap.size, 0, none⟩ = some (.slice AW nW cW) := by rw [hA3.cell]; rfl)
       (have d6 : w3.cell? ⟨w.heap.size, 1, none⟩ = some (.slice AR nR cR) := by rw [hA3.cell]; rfl))
    | (try go_simp
       go_at_call 69
       refine (HC4.out w3 Al nl cl hB3 L hL3 (by omega) HLR.out).mono ?_
       rintro e w4 ⟨AH, cH, rfl, hP4⟩
       have hb4 := hP4.below_
       have hB4 := hB3.trans (hb4.mono hB3.size)
       have hR4 := hR3.below_ hb4
       have hG4 := GraphRd.more (hG3.below hb4) (D' := fun _ => True) (fun _ _ _ => trivial)
       have hH4 := hP4.rd_ 0 rfl)
    | (try go_simp
       go_at_call 29
       refine (HC5.out w4 vr AH nl cH hG4 hH4).mono ?_
       rintro e w5 ⟨va, rfl, hb5, hAr5⟩
       obtain ⟨X1, m1, e1, X2, m2, e2, rfl, k1, k2⟩ := hAr5
       have hB5 := hB4.trans (hb5.mono hB4.size)
       have hR5 := hR4.below_ hb5
       obtain ⟨y1, y2, y3⟩ := hR5.rules))
  all_goals
    go_wp2_with fail
    have hF := (hR5.set_ 0 (.slice X1 m1 e1)).set_ 1 (.slice X2 m2 e2)
    have hB6 := (hB5.setCell (p := ⟨w.heap.size + 1, 0, none⟩) (by simp) (.slice X1 m1 e1)).setCell (p := ⟨w.heap.size + 1, 1, none⟩) (by simp) (.slice X2 m2 e2)
    have hc : Chg (fun g => g = w.heap.size + 1) w5 ((w5.setCell ⟨w.heap.size + 1, 0, none⟩ (.slice X1 m1 e1)).setCell ⟨w.heap.size + 1, 1, none⟩ (.slice X2 m2 e2)) := ((Chg.refl (fun g => g = w.heap.size + 1) w5).setCell (p := ⟨w.heap.size + 1, 0, none⟩) (.inl rfl) _).setCell (p := ⟨w.heap.size + 1, 1, none⟩) (.inl rfl) _
    refine bodyPost_ret (v := .agg #[.slice X1 m1 e1, .slice X2 m2 e2]) (by simp [results, Try.results33, go_sem, y1]) rfl ⟨_, rfl, hB6, ?_⟩
    have hs4 := hB4.size
    have hr4 := hR4.lt
    exact ⟨_, _, _, _, _, _, rfl, (k1.chg hc (fun g h1 h2 => by omega)).more (fun g _ h => by omega), (k2.chg hc (fun g h1 h2 => by omega)).more (fun g _ h => by omega)⟩

theorem arenas_nil (w : World) : ArenaRd w w (.agg #[.slice none 0 0, .slice none 0 0]) [] [] := ⟨_, _, _, _, _, _, rfl, Rd.nil, Rd.nil⟩
set_option maxRecDepth 100000 in
set_option maxHeartbeats 4000000 in
theorem copy_bad (w : World) (AW AR : Option Addr) (nW cW nR cR : Nat) (ws rs : List Int) (hW : WsIn w AW nW cW ws) (hR : WsIn w AR nR cR rs) (hz : acheck nW nR ws rs ≠ 0) :
    Calls Try.prog 31 #[.agg #[.slice AW nW cW, .slice AR nR cR]] w fun e w' => e = .returned (.tuple #[.agg #[.slice none 0 0, .slice none 0 0], .int .i64 (acheck nW nR ws rs)]) ∧ Below w.heap.size w w' := by
  have hS0 := ((Sep.nil No w).blkAt 55 #[.slice AW nW cW, .slice AR nR cR] rfl).blkAt 55 #[.slice none 0 0, .slice none 0 0] (g := w.heap.size + 1) (by simp)
  obtain ⟨a1, a2, a3, a4⟩ := hS0.rules 0 (g := w.heap.size) (t := 55) rfl
  have HS0 := hide hS0
  have C1 := hide (arenaCheck_any _ AW AR nW cW nR cR ws rs (hW.below hS0.below_) (hR.below hS0.below_))
  obtain ⟨x, hx⟩ : ∃ x, acheck nW nR ws rs = x := ⟨_, rfl⟩
  rw [hx] at C1 hz ⊢
  have y1 : (x != 0) = true := by rw [bne_iff_ne]; exact hz
  clear hS0 hx hz
  go_enter Try.func31, Try.ntmps31
  go_wp2_with fail
  refine C1.out.mono ?_
  rintro e w1 ⟨rfl, hb1⟩
  have hS1 := HS0.out.below hb1
  have HS1 := hide hS1
  clear a1 a2 a3 a4
  obtain ⟨q1, q2, q3, q4⟩ := hS1.rules 1 (g := w.heap.size + 1) (t := 55) rfl
  clear hS1
  go_wp2_with fail
  have hF := (HS1.out.set_ 1 (g := w.heap.size + 1) (t := 55) rfl 0 (.slice none 0 0)).set_ 1 (g := w.heap.size + 1) (t := 55) rfl 1 (.slice none 0 0)
  refine bodyPost_ret (v := .tuple #[.agg #[.slice none 0 0, .slice none 0 0], .int .i64 x]) (by simp [results, Try.results31, go_sem, q1]) rfl ⟨rfl, hF.below_⟩

set_option maxRecDepth 100000 in
set_option maxHeartbeats 8000000 in
theorem moveTells_walk (w : World) (AW AR : Option Addr) (nW cW nR cR : Nat) (ws rs : List Int) (hW : WsIn w AW nW cW ws) (hR : WsIn w AR nR cR rs) :
    Calls Try.prog 7 #[.agg #[.slice AW nW cW, .slice AR nR cR]] w fun e w' => e = .returned (.bool true) ∧ Below w.heap.size w w' := by
  have hB0 : Below w.heap.size w (w.alloc (.cells #[.slice AW nW cW, .slice AR nR cR] 55)) := (Below.refl _ w).alloc (Nat.le_refl _) _
  have BA := hide (Blk.new w 55 #[.slice AW nW cW, .slice AR nR cR])
  have HB0 := hide hB0
  have C4 := hide (fun w' (hb : Below w.heap.size w w') => refAcheck_any w' AW AR nW cW nR cR ws rs (hW.below hb) (hR.below hb))
  by_cases hz : acheck nW nR ws rs = 0
  · have C1 := hide (copy_ok _ AW AR nW cW nR cR ws rs (hW.below hB0) (hR.below hB0) hz)
    have C2 := hide (fun w' (hb : Below w.heap.size w w') => refMove_any w' AW AR nW cW nR cR ws rs (hW.below hb) (hR.below hb) hz)
    rw [hz] at C4
    obtain ⟨h1, h2, h3, h4⟩ := acheck_zero hz
    have hgl : (graphOf ws (parse nW ws 0).1).length = (parse nW ws 0).1.length := by unfold graphOf; rw [List.length_map]
    have hG := good_of_check h4
    have hGW : ∀ x ∈ rs ++ fieldsOf ws (parse nW ws 0).1, GoodW (parse nW ws 0).1 x := fun x hx => by
      have hb : 0 ≤ x ∧ x ≤ 18446744073709551615 := by
        rcases List.mem_append.1 hx with h | h
        · exact hR.wf x h
        · obtain ⟨p, _, hp⟩ := List.mem_flatMap.1 h
          exact hW.wf x (List.mem_of_mem_drop (List.mem_of_mem_take hp))
      exact ⟨hb.1, hb.2, hG.e x hx, hG.ix x hx⟩
    have hw0 : ∀ x ∈ ws, 0 ≤ x := fun x hx => (hW.wf x hx).1
    have hvg : ∀ fs ∈ graphOf ws (parse nW ws 0).1, ValsOk (graphOf ws (parse nW ws 0).1).length fs := by rw [hgl]; exact ValsOk.of_graph fun x hx => hGW x (List.mem_append_right _ hx)
    have hvr : ValsOk (graphOf ws (parse nW ws 0).1).length (rs.map (turnW (ixOf (parse nW ws 0).1))) := by rw [hgl]; exact good_vals fun x hx => hGW x (List.mem_append_left _ hx)
    have hOK := order_ok hvg hvr
    rw [hgl] at hOK
    have hsum := sumO_le hw0 hOK
    have hdl := done_len (ws := ws) (pre := (parse nW ws 0).1) (L := order (graphOf ws (parse nW ws 0).1) (rs.map (turnW (ixOf (parse nW ws 0).1)))) (l := order (graphOf ws (parse nW ws 0).1) (rs.map (turnW (ixOf (parse nW ws 0).1)))) (fun i hi => (rawO_len (nW := nW) hw0 (hOK.rng i hi).1 (hOK.rng i hi).2).1)
    obtain ⟨L, hL⟩ : ∃ L, order (graphOf ws (parse nW ws 0).1) (rs.map (turnW (ixOf (parse nW ws 0).1))) = L := ⟨_, rfl⟩
    simp only [hL] at C1 C2 hsum hdl
    obtain ⟨xs, hxs⟩ : ∃ xs, L.flatMap (doneO ws (parse nW ws 0).1 L) = xs := ⟨_, rfl⟩
    obtain ⟨ys, hys⟩ : ∃ ys, rs.map (transW (parse nW ws 0).1 L) = ys := ⟨_, rfl⟩
    have hyl : ys.length ≤ 1000 := by rw [← hys, List.length_map, hR.len]; omega
    simp only [hxs, hys] at C1 C2 hdl
    have hxl : xs.length ≤ 1000 := by have := hW.len; omega
    clear hz h1 h2 h3 h4 hgl hG hGW hw0 hvg hvr hOK hsum hdl hL hxs hys hB0
    go_enter Try.func7, Try.ntmps7
    go_wp2_with fail
    refine C1.out.mono ?_
    rintro e w1 ⟨v, rfl, hb1, hAr1⟩
    obtain ⟨X1, m1, e1, X2, m2, e2, rfl, k1, k2⟩ := hAr1
    have bA1 := (BA.out.below_ hb1).alloc (.cells #[.slice X1 m1 e1, .slice X2 m2 e2] 55)
    have hB1 := HB0.out.trans (hb1.mono HB0.out.size)
    have hB1' := hB1.alloc hB1.size (.cells #[.slice X1 m1 e1, .slice X2 m2 e2] 55)
    have bV1 := Blk.new w1 55 #[.slice X1 m1 e1, .slice X2 m2 e2]
    have hAr1 : ArenaRd w (w1.alloc (.cells #[.slice X1 m1 e1, .slice X2 m2 e2] 55)) (.agg #[.slice X1 m1 e1, .slice X2 m2 e2]) xs ys := ⟨_, _, _, _, _, _, rfl, (k1.below ((Below.refl _ w1).alloc (Nat.le_refl _) _)).more (fun g _ h => by simp at h; omega), (k2.below ((Below.refl _ w1).alloc (Nat.le_refl _) _)).more (fun g _ h => by simp at h; omega)⟩
    obtain ⟨a1, a2, a3⟩ := bA1.rules
    have HB1 := hide hB1'
    have BA1 := hide bA1
    have BV1 := hide bV1
    have HAr1 := hide hAr1
    clear hb1 hB1 hB1' bA1 bV1 k1 k2 hAr1 HB0 BA C1
    go_wp2_with fail
    refine (C4.out _ HB1.out).mono ?_
    rintro e w2 ⟨rfl, hb2⟩
    have hB2 := HB1.out.trans (hb2.mono HB1.out.size)
    have bA2 := BA1.out.below_ hb2
    have bV2 := BV1.out.below_ hb2
    have hAr2 : ArenaRd w w2 (.agg #[.slice X1 m1 e1, .slice X2 m2 e2]) xs ys := by
      obtain ⟨_, _, _, _, _, _, h, p1, p2⟩ := HAr1.out
      exact ⟨_, _, _, _, _, _, h, p1.below hb2, p2.below hb2⟩
    clear a1 a2 a3
    have u5 : w2.cell? ⟨w.heap.size, 0, none⟩ = some (.slice AW nW cW) := by rw [bA2.cell]; rfl
    have u6 : w2.cell? ⟨w.heap.size, 1, none⟩ = some (.slice AR nR cR) := by rw [bA2.cell]; rfl
    have v5 : w2.cell? ⟨w1.heap.size, 0, none⟩ = some (.slice X1 m1 e1) := by rw [bV2.cell]; rfl
    have v6 : w2.cell? ⟨w1.heap.size, 1, none⟩ = some (.slice X2 m2 e2) := by rw [bV2.cell]; rfl
    have HB2 := hide hB2
    have HAr2 := hide hAr2
    have BV2 := hide bV2
    clear hb2 hB2 bA2 bV2 hAr2 HB1 BA1 BV1 HAr1 C4
    go_wp2_with fail
    go_region_law (first
      | (try go_simp
         go_at_call 33
         refine (C2.out w2.drew HB2.out.drew).mono ?_
         rintro e w3 ⟨va, rfl, hb3, hAr3⟩
         have hB3 := HB2.out.drew.trans (hb3.mono HB2.out.size)
         have bV3 := BV2.out.drew.below_ hb3
         (have d5 : w3.cell? ⟨w1.heap.size, 0, none⟩ = some (.slice X1 m1 e1) := by rw [bV3.cell]; rfl)
         (have d6 : w3.cell? ⟨w1.heap.size, 1, none⟩ = some (.slice X2 m2 e2) := by rw [bV3.cell]; rfl)
         (have hAr3' : ArenaRd w w3 (.agg #[.slice X1 m1 e1, .slice X2 m2 e2]) xs ys := by
            obtain ⟨_, _, _, _, _, _, h, p1, p2⟩ := HAr2.out
            exact ⟨_, _, _, _, _, _, h, (p1.below (Below.refl _ w2).drew).below hb3, (p2.below (Below.refl _ w2).drew).below hb3⟩))
      | (try go_simp
         go_at_call 28
         refine (arenas_any w3 w w2.drew _ _ xs ys hxl hyl hAr3' hAr3).mono ?_
         rintro e w4 ⟨rfl, hb4⟩
         have hB4 := hB3.trans (hb4.mono hB3.size)))
    all_goals
      go_wp2_with fail
      go_ret
      exact ⟨rfl, hB4⟩
  · have C1 := hide (copy_bad _ AW AR nW cW nR cR ws rs (hW.below hB0) (hR.below hB0) hz)
    obtain ⟨x, hx⟩ : ∃ x, acheck nW nR ws rs = x := ⟨_, rfl⟩
    rw [hx] at C1 hz
    simp only [hx] at C4
    have y1 : (x != 0) = true := by rw [bne_iff_ne]; exact hz
    clear hz hx hB0
    go_enter Try.func7, Try.ntmps7
    go_wp2_with fail
    refine C1.out.mono ?_
    rintro e w1 ⟨rfl, hb1⟩
    have bA1 := (BA.out.below_ hb1).alloc (.cells #[.slice none 0 0, .slice none 0 0] 55)
    have hB1 := HB0.out.trans (hb1.mono HB0.out.size)
    have hB1' := hB1.alloc hB1.size (.cells #[.slice none 0 0, .slice none 0 0] 55)
    have bV1 := Blk.new w1 55 #[.slice none 0 0, .slice none 0 0]
    obtain ⟨a1, a2, a3⟩ := bA1.rules
    have HB1 := hide hB1'
    have BV1 := hide bV1
    clear hb1 hB1 hB1' bA1 bV1 HB0 BA C1
    go_wp2_with fail
    refine (C4.out _ HB1.out).mono ?_
    rintro e w2 ⟨rfl, hb2⟩
    have hB2 := HB1.out.trans (hb2.mono HB1.out.size)
    have bV2 := BV1.out.below_ hb2
    clear a1 a2 a3
    obtain ⟨v1, v2, v3⟩ := bV2.rules
    have HB2 := hide hB2
    clear hb2 hB2 bV2 HB1 BV1 C4
    go_wp2_with fail
    refine (arenas_any w2 w2 w2 _ _ [] [] (by simp) (by simp) (arenas_nil w2) (arenas_nil w2)).mono ?_
    rintro e w3 ⟨rfl, hb3⟩
    have hB3 := HB2.out.trans (hb3.mono HB2.out.size)
    have HB3 := hide hB3
    clear hB3 hb3 v1 v2 v3
    go_wp2_with fail
    go_ret
    exact ⟨rfl, HB3.out⟩
end Go.Proofs.Ytpbafmdebflbpaa

namespace Go.Proofs.Ytpbafmdebflbpaa
open Go.RowKit Go.Maps

def doneS (ws : List Int) (pre : List (Nat × Nat)) (L : List Int) (i : Int) : List Int := (headW (older 0 (headOf (ws.getD (plc pre i) 0))).1 false (older 0 (headOf (ws.getD (plc pre i) 0))).2.2) :: ((ws.drop (plc pre i + 1)).take (lenO pre i)).map (transW pre L)

set_option maxRecDepth 100000 in
set_option maxHeartbeats 16000000 in
theorem refSlide_any (w : World) (AW AR : Option Addr) (nW cW nR cR : Nat) (ws rs : List Int) (hW : WsIn w AW nW cW ws) (hR : WsIn w AR nR cR rs) (hz : acheck nW nR ws rs = 0) :
    Calls Try.prog 51 #[.agg #[.slice AW nW cW, .slice AR nR cR]] w fun e w' => ∃ v, e = .returned v ∧ Below w.heap.size w w' ∧
      ArenaRd w w' v ((reachR (graphOf ws (parse nW ws 0).1) (rs.map (turnW (ixOf (parse nW ws 0).1)))).flatMap (doneS ws (parse nW ws 0).1 (reachR (graphOf ws (parse nW ws 0).1) (rs.map (turnW (ixOf (parse nW ws 0).1))))))
        (rs.map (transW (parse nW ws 0).1 (reachR (graphOf ws (parse nW ws 0).1) (rs.map (turnW (ixOf (parse nW ws 0).1)))))) := by
  obtain ⟨h1, h2, h3, h4⟩ := acheck_zero hz
  have hw0 : ∀ x ∈ ws, 0 ≤ x := fun x hx => (hW.wf x hx).1
  have hG := good_of_check h4
  have hGW : ∀ x ∈ rs ++ fieldsOf ws (parse nW ws 0).1, GoodW (parse nW ws 0).1 x := fun x hx => by
    have hb : 0 ≤ x ∧ x ≤ 18446744073709551615 := by
      rcases List.mem_append.1 hx with h | h
      · exact hR.wf x h
      · obtain ⟨p, _, hp⟩ := List.mem_flatMap.1 h
        exact hW.wf x (List.mem_of_mem_drop (List.mem_of_mem_take hp))
    exact ⟨hb.1, hb.2, hG.e x hx, hG.ix x hx⟩
  have hgl : (graphOf ws (parse nW ws 0).1).length = (parse nW ws 0).1.length := by unfold graphOf; rw [List.length_map]
  have hvg : ∀ fs ∈ graphOf ws (parse nW ws 0).1, ValsOk (graphOf ws (parse nW ws 0).1).length fs := by rw [hgl]; exact ValsOk.of_graph fun x hx => hGW x (List.mem_append_right _ hx)
  have hvr : ValsOk (graphOf ws (parse nW ws 0).1).length (rs.map (turnW (ixOf (parse nW ws 0).1))) := by rw [hgl]; exact good_vals fun x hx => hGW x (List.mem_append_left _ hx)
  have hOK := reach_ok (gs := graphOf ws (parse nW ws 0).1) (vs := rs.map (turnW (ixOf (parse nW ws 0).1)))
  obtain ⟨hcl, hcr⟩ := reach_closed hvg hvr
  rw [hgl] at hOK
  have hfl : ∀ fs ∈ graphOf ws (parse nW ws 0).1, fs.length ≤ 4 := fun fs hfs => by
    obtain ⟨p, hp, rfl⟩ := List.mem_map.1 hfs
    have h5 := parse_mem nW ws 0 p hw0 hp
    have h6 := h5.2.1.1
    rw [h5.2.2.1] at h6
    unfold fieldsAt
    rw [List.length_map, List.length_take]
    omega
  have hpl : (parse nW ws 0).1.length ≤ 256 := by
    have h6 := parse_sum nW ws 0 (by omega) hw0
    have h7 : ∀ m : List (Nat × Nat), m.length ≤ (m.map fun p => 1 + p.2).sum := fun m => by
      induction m with
      | nil => simp
      | cons a m ih => simp only [List.map_cons, List.sum_cons, List.length_cons]; omega
    have h8 := h7 (parse nW ws 0).1
    have h9 := hW.len
    omega
  have hwd := move_words (nW := nW) (ws := ws) 0 hw0 (by rw [hW.len]; exact h1) (fun x hx => hGW x (List.mem_append_right _ hx)) hOK hcl
  have hrd : ((rs.map (turnW (ixOf (parse nW ws 0).1))).map (turnL (reachR (graphOf ws (parse nW ws 0).1) (rs.map (turnW (ixOf (parse nW ws 0).1)))))).map (packV (atF (renumF (graphOf ws (parse nW ws 0).1) (reachR (graphOf ws (parse nW ws 0).1) (rs.map (turnW (ixOf (parse nW ws 0).1))))))) = rs.map (transW (parse nW ws 0).1 (reachR (graphOf ws (parse nW ws 0).1) (rs.map (turnW (ixOf (parse nW ws 0).1))))) := by
    rw [List.map_map, List.map_map]
    refine List.map_congr_left fun x hx => ?_
    refine pack_trans _ hw0 (by rw [hW.len]; exact h1) (hGW x (List.mem_append_left _ hx)) hOK (renum_at hw0 hOK.rng) (fun hr => ?_)
    have h5 := hcr (turnW (ixOf (parse nW ws 0).1) x) (List.mem_map.2 ⟨x, hx, rfl⟩) hr
    have h6 : (turnW (ixOf (parse nW ws 0).1) x).2 = (ixOf (parse nW ws 0).1 (unA x) : Int) := by unfold turnW; rw [hr]; rfl
    rw [h6] at h5
    exact h5
  have hhd : ∀ h ∈ headsAt (headsL ws (parse nW ws 0).1) (reachR (graphOf ws (parse nW ws 0).1) (rs.map (turnW (ixOf (parse nW ws 0).1)))) 0, HdOk h := fun h hh => by
    obtain ⟨i, hi, rfl⟩ := List.mem_map.1 hh
    refine older_ok (by omega) ?_
    obtain ⟨i0, i1⟩ := hOK.rng i hi
    have hil : i.toNat < (headsL ws (parse nW ws 0).1).length := by unfold headsL; rw [List.length_map]; omega
    rw [List.getD_eq_getElem?_getD, List.getElem?_eq_getElem hil]
    exact headsL_ok hw0 _ (List.getElem_mem hil)
  have C1 := fun w' (hb : Below w.heap.size w w') => refRead_any w' AW AR nW cW nR cR ws rs (hW.below hb) (hR.below hb) hz
  have C4 := fun w' Al nl cl (hb : Below w.heap.size w w') l hl hnl hlr => headsOf_any w' AW AR Al nW cW nR cR nl cl 0 ws l (hW.below hb) h1 h3 hl hnl (by omega) hlr
  have hrl : (rs.map (turnW (ixOf (parse nW ws 0).1))).length ≤ 8 := by rw [List.length_map, hR.len]; exact h2
  rw [← hwd.trans (show _ = (reachR (graphOf ws (parse nW ws 0).1) (rs.map (turnW (ixOf (parse nW ws 0).1)))).flatMap (doneS ws (parse nW ws 0).1 (reachR (graphOf ws (parse nW ws 0).1) (rs.map (turnW (ixOf (parse nW ws 0).1))))) from rfl), ← hrd]
  rw [← hgl] at hOK hpl
  have hnum : (parse nW ws 0).1.length = (graphOf ws (parse nW ws 0).1).length := hgl.symm
  simp only [hnum] at C4
  obtain ⟨hs, hhs⟩ : ∃ hs, headsL ws (parse nW ws 0).1 = hs := ⟨_, rfl⟩
  simp only [hhs] at C4 hhd ⊢
  obtain ⟨vs, hvs⟩ : ∃ vs, rs.map (turnW (ixOf (parse nW ws 0).1)) = vs := ⟨_, rfl⟩
  simp only [hvs] at C1 hvr hOK hcl hcr hhd hrl ⊢
  obtain ⟨gs, hgs⟩ : ∃ gs, graphOf ws (parse nW ws 0).1 = gs := ⟨_, rfl⟩
  simp only [hgs] at C1 C4 hvg hvr hOK hcl hcr hfl hpl hhd ⊢
  obtain ⟨L, hL⟩ : ∃ L, reachR gs vs = L := ⟨_, rfl⟩
  simp only [hL] at hOK hcl hcr hhd ⊢
  have C2 := fun w' v (h : GraphRd w' (fun _ => True) v gs vs) => reach_any w' v gs vs h (by omega) (by omega) (fun fs hfs => by have := hfl fs hfs; omega)
  simp only [hL] at C2
  have hLl := hOK.len
  have C3 := fun w' v Al nl cl (h : GraphRd w' (fun _ => True) v gs vs) (hl : Rd w' (fun _ => True) 1 Al nl (ints L)) hnl => renumber_any w' v Al nl cl gs vs L h hl hOK.rng (by omega) hnl (by omega) (fun fs hfs => by have := hfl fs hfs; omega)
  have hrn : (renumF gs L).length = L.length := by unfold renumF; rw [List.length_map]
  have C5 := fun w' v AH nH cH (h : GraphRd w' (fun _ => True) v (renumF gs L) (vs.map (turnL L))) (hH : Rd w' (fun _ => True) 3 AH nH (hcells (headsAt hs L 0))) =>
    refLayG_any w' v AH nH cH (renumF gs L) (vs.map (turnL L)) (headsAt hs L 0) h (by rw [hrn]; unfold headsAt; rw [List.length_map]) hhd hH (by omega) (by rw [List.length_map]; exact hrl) (fun fs hfs => by
      obtain ⟨x, hx, rfl⟩ := List.mem_map.1 hfs
      rw [List.length_map]
      obtain ⟨x0, x1⟩ := hOK.rng x hx
      unfold fieldsI
      rw [List.getD_eq_getElem?_getD, List.getElem?_eq_getElem (by omega)]
      exact hfl _ (List.getElem_mem _)) (fun fs hfs v hv h1 => by
      obtain ⟨x, hx, rfl⟩ := List.mem_map.1 hfs
      obtain ⟨u, hu, rfl⟩ := List.mem_map.1 hv
      rw [hrn]
      unfold turnL at h1 ⊢
      by_cases h9 : u.1 = true
      · rw [if_pos h9]
        have := place_lt (hcl x hx u hu h9)
        dsimp only
        omega
      · rw [if_neg h9] at h1; exact absurd h1 h9) (fun v hv h1 => by
      obtain ⟨u, hu, rfl⟩ := List.mem_map.1 hv
      rw [hrn]
      unfold turnL at h1 ⊢
      by_cases h9 : u.1 = true
      · rw [if_pos h9]
        have := place_lt (hcr u hu h9)
        dsimp only
        omega
      · rw [if_neg h9] at h1; exact absurd h1 h9)
  have HC1 := hide C1
  have HC2 := hide C2
  have HC3 := hide C3
  have HC4 := hide C4
  have HC5 := hide C5
  have HLR := hide hOK.rng
  have hL256 : L.length ≤ 256 := by omega
  have hB0 : Below w.heap.size w ((w.alloc (.cells #[.slice AW nW cW, .slice AR nR cR] 55)).alloc (.cells #[.slice none 0 0, .slice none 0 0] 55)) := ((Below.refl _ w).alloc (Nat.le_refl _) _).alloc (by simp) _
  have b1 := (Blk.new w 55 #[.slice AW nW cW, .slice AR nR cR]).alloc (.cells #[.slice none 0 0, .slice none 0 0] 55)
  have b2 := Blk.new (w.alloc (.cells #[.slice AW nW cW, .slice AR nR cR] 55)) 55 #[.slice none 0 0, .slice none 0 0]
  rw [World.size_alloc] at b2
  have HB := hide hB0
  have HA := hide b1
  have HR := hide b2
  clear C1 C2 C3 C4 C5 hOK hwd hrd hnum hhs hvs hgs hL hG hGW hgl hvg hvr hcl hcr hfl hpl hhd hrl hLl hrn hz h1 h2 h3 h4 hw0 hB0 b1 b2
  go_enter Try.func51, Try.ntmps51
  go_wp2_with fail
  refine (HC1.out _ HB.out).mono ?_
  rintro e w1 ⟨v, rfl, hb1, hG1⟩
  obtain ⟨AO, nO, cO, Ag, ng, cg, obs, rfl, g1, g2, g3⟩ := hG1.ex
  have hA1 := (HA.out.below_ hb1).alloc (.cells #[.slice AO nO cO, .slice Ag ng cg] 52)
  have hR1 := (HR.out.below_ hb1).alloc (.cells #[.slice AO nO cO, .slice Ag ng cg] 52)
  have hV1 := Blk.new w1 52 #[.slice AO nO cO, .slice Ag ng cg]
  have hB1 := HB.out.trans (hb1.mono HB.out.size)
  have hB1' := hB1.alloc hB1.size (.cells #[.slice AO nO cO, .slice Ag ng cg] 52)
  have hG1' : GraphRd (w1.alloc (.cells #[.slice AO nO cO, .slice Ag ng cg] 52)) (fun _ => True) (.agg #[.slice AO nO cO, .slice Ag ng cg]) gs vs := (GraphRd.more hG1 (fun _ _ _ => trivial)).below ((Below.refl _ w1).alloc (Nat.le_refl _) _)
  have HB1 := hide hB1'
  have HA1 := hide hA1
  have HR1 := hide hR1
  have HV1 := hide hV1
  have HG1 := hide hG1'
  clear hA1 hR1 hV1 hB1 hB1' hG1 hG1' g1 g2 g3 hb1 HB HA HR HC1
  go_wp2_with fail
  refine (HC2.out _ _ HG1.out).mono ?_
  rintro e w2 ⟨Al, nl, cl, rfl, hP⟩
  have hb2 := hP.below_
  have hnl : L.length = nl := by have := (hP.rd_ 0 rfl).1; simpa using this
  have HB2 := hide (HB1.out.trans (hb2.mono HB1.out.size))
  have HA2 := hide (HA1.out.below_ hb2)
  have HR2 := hide (HR1.out.below_ hb2)
  have HV2 := hide (HV1.out.below_ hb2)
  have HG2 := hide (HG1.out.below hb2)
  have HL2 := hide (hP.rd_ 0 rfl)
  obtain ⟨v1, v2, v3⟩ := HV2.out.rules
  obtain ⟨u1, u2, u3⟩ := HA2.out.rules
  have v5 : w2.cell? ⟨w1.heap.size, 0, none⟩ = some (.slice AO nO cO) := by rw [v1]; rfl
  have v6 : w2.cell? ⟨w1.heap.size, 1, none⟩ = some (.slice Ag ng cg) := by rw [v1]; rfl
  have u5 : w2.cell? ⟨w.heap.size, 0, none⟩ = some (.slice AW nW cW) := by rw [u1]; rfl
  have u6 : w2.cell? ⟨w.heap.size, 1, none⟩ = some (.slice AR nR cR) := by rw [u1]; rfl
  clear hb2 hP v1 v2 v3 u1 u2 u3 HB1 HA1 HR1 HV1 HG1 HC2
  go_wp2_with fail
  go_region_law (first
    | (try go_simp
       go_at_call 68
       refine (HC3.out w2.drew _ Al nl cl (HG2.out.below (Below.refl _ w2).drew) (HL2.out.below (Below.refl _ w2).drew) (by omega)).mono ?_
       rintro e w3 ⟨vr, rfl, hb3, hG3⟩
       have hB3 := HB2.out.drew.trans (hb3.mono HB2.out.size)
       have hA3 := HA2.out.drew.below_ hb3
       have hR3 := HR2.out.drew.below_ hb3
       have hL3 := (HL2.out.below (Below.refl _ w2).drew).below hb3
       (have d5 : w3.cell? ⟨w.heap.size, 0, none⟩ = some (.slice AW nW cW) := by rw [hA3.cell]; rfl)
       (have d6 : w3.cell? ⟨w.heap.size, 1, none⟩ = some (.slice AR nR cR) := by rw [hA3.cell]; rfl))
    | (try go_simp
       go_at_call 69
       refine (HC4.out w3 Al nl cl hB3 L hL3 (by omega) HLR.out).mono ?_
       rintro e w4 ⟨AH, cH, rfl, hP4⟩
       have hb4 := hP4.below_
       have hB4 := hB3.trans (hb4.mono hB3.size)
       have hR4 := hR3.below_ hb4
       have hG4 := GraphRd.more (hG3.below hb4) (D' := fun _ => True) (fun _ _ _ => trivial)
       have hH4 := hP4.rd_ 0 rfl)
    | (try go_simp
       go_at_call 29
       refine (HC5.out w4 vr AH nl cH hG4 hH4).mono ?_
       rintro e w5 ⟨va, rfl, hb5, hAr5⟩
       obtain ⟨X1, m1, e1, X2, m2, e2, rfl, k1, k2⟩ := hAr5
       have hB5 := hB4.trans (hb5.mono hB4.size)
       have hR5 := hR4.below_ hb5
       obtain ⟨y1, y2, y3⟩ := hR5.rules))
  all_goals
    go_wp2_with fail
    have hF := (hR5.set_ 0 (.slice X1 m1 e1)).set_ 1 (.slice X2 m2 e2)
    have hB6 := (hB5.setCell (p := ⟨w.heap.size + 1, 0, none⟩) (by simp) (.slice X1 m1 e1)).setCell (p := ⟨w.heap.size + 1, 1, none⟩) (by simp) (.slice X2 m2 e2)
    have hc : Chg (fun g => g = w.heap.size + 1) w5 ((w5.setCell ⟨w.heap.size + 1, 0, none⟩ (.slice X1 m1 e1)).setCell ⟨w.heap.size + 1, 1, none⟩ (.slice X2 m2 e2)) := ((Chg.refl (fun g => g = w.heap.size + 1) w5).setCell (p := ⟨w.heap.size + 1, 0, none⟩) (.inl rfl) _).setCell (p := ⟨w.heap.size + 1, 1, none⟩) (.inl rfl) _
    refine bodyPost_ret (v := .agg #[.slice X1 m1 e1, .slice X2 m2 e2]) (by simp [results, Try.results51, go_sem, y1]) rfl ⟨_, rfl, hB6, ?_⟩
    have hs4 := hB4.size
    have hr4 := hR4.lt
    exact ⟨_, _, _, _, _, _, rfl, (k1.chg hc (fun g h1 h2 => by omega)).more (fun g _ h => by omega), (k2.chg hc (fun g h1 h2 => by omega)).more (fun g _ h => by omega)⟩

end Go.Proofs.Ytpbafmdebflbpaa

namespace Go.Proofs.Ytpbafmdebflbpaa
open Go.RowKit Go.Maps

/-- What is laid for the first k objects. -/
def sldW (ws : List Int) (pre : List (Nat × Nat)) (S : Nat → Bool) (L : List Int) (k : Nat) : List Int := (mkd S k).flatMap (doneS ws pre L)
theorem sldW_succ (ws : List Int) (pre : List (Nat × Nat)) (S : Nat → Bool) (L : List Int) (k : Nat) : sldW ws pre S L (k + 1) = sldW ws pre S L k ++ if S k = true then doneS ws pre L (k : Int) else [] := by
  unfold sldW
  rw [mkd_succ, List.flatMap_append]
  congr 1
  split <;> simp
theorem doneS_nat {nW : Nat} {ws : List Int} (hok : ArnOk nW ws) (L : List Int) {k : Nat} (hk : k < (parse nW ws 0).1.length) : doneS ws (parse nW ws 0).1 L (k : Int) = headW (lenN (parse nW ws 0).1 k) false (ageN ws (parse nW ws 0).1 k) :: (fldN ws (parse nW ws 0).1 k).map (transW (parse nW ws 0).1 L) := by
  obtain ⟨_, _, h3, _, _, h6, h7⟩ := hok.obj hk
  have e : plc (parse nW ws 0).1 (k : Int) = plcN (parse nW ws 0).1 k := rfl
  have e2 : lenO (parse nW ws 0).1 (k : Int) = lenN (parse nW ws 0).1 k := rfl
  unfold doneS older headOf
  rw [e, e2]
  dsimp only
  rw [h3]
  unfold ageN at h6 h7 ⊢
  rw [if_neg (by omega), Int.add_zero]
  rfl
theorem sldW_len {nW : Nat} {ws : List Int} (hok : ArnOk nW ws) (S : Nat → Bool) (L : List Int) (k : Nat) (hk : k ≤ (parse nW ws 0).1.length) : (sldW ws (parse nW ws 0).1 S L k).length = sumO (parse nW ws 0).1 (mkd S k) := by
  induction k with
  | zero => rfl
  | succ k ih =>
    rw [sldW_succ, mkd_succ, List.length_append, ih (by omega)]
    cases h : S k with
    | false => simp
    | true =>
      rw [if_pos rfl, if_pos rfl, sumO_snoc, doneS_nat hok L (by omega), List.length_cons, List.length_map, hok.fld (by omega)]
      have e2 : lenO (parse nW ws 0).1 (k : Int) = lenN (parse nW ws 0).1 k := rfl
      rw [e2]
      omega

set_option maxRecDepth 100000 in
set_option maxHeartbeats 4000000 in
theorem walkSd_any (w : World) (bo bt bm b nn cm nr cr nr2 cr2 nW : Nat) (D : DataW Unit) (Ar Am Ar2 : Option Addr) (ws L : List Int) (S : Nat → Bool) (hok : ArnOk nW ws) (hwf : ∀ x ∈ ws, 0 ≤ x ∧ x ≤ 18446744073709551615) (hs : (allI (SdI bo bt bm b nn D none 0 0 [] Ar nr cr Am nW cm Ar2 nr2 cr2)).P w)
    (hV : WsD w (fun g => ¬ (allI (SdI bo bt bm b nn D none 0 0 [] Ar nr cr Am nW cm Ar2 nr2 cr2)).fp g) Am nW cm (mkW ws (parse nW ws 0).1 S)) (hN : NowOk (parse nW ws 0).1 L D) (hL : ∀ k, k < (parse nW ws 0).1.length → S k = true → ∀ x ∈ fldN ws (parse nW ws 0).1 k, GoodW (parse nW ws 0).1 x ∧ (unR x = true → (ixOf (parse nW ws 0).1 (unA x) : Int) ∈ L)) (hq : ∀ i ∈ L, newAt (parse nW ws 0).1 L i < 256) :
    Calls Try.prog 74 #[.slice Am nW cm, .func (.func 93) #[] #[.pointer (some ⟨bo, 0, none⟩), .pointer (some ⟨bm, 0, none⟩), .pointer (some ⟨bt, 0, none⟩)]] w fun e w' => ∃ A n c, e = .returned (.bool true) ∧
      Sep (allI (SdI bo bt bm b nn D none 0 0 [] Ar nr cr Am nW cm Ar2 nr2 cr2)).fp w w' [allI (SdI bo bt bm b nn D A n c (sldW ws (parse nW ws 0).1 S L (parse nW ws 0).1.length) Ar nr cr Am nW cm Ar2 nr2 cr2)] := by
  have C := walkV_any 93 (enter_of Try.func93 (by kernel_rfl) (by kernel_rfl)) #[.pointer (some ⟨bo, 0, none⟩), .pointer (some ⟨bm, 0, none⟩), .pointer (some ⟨bt, 0, none⟩)] w Am nW cm (mkW ws (parse nW ws 0).1 S) (mk_ok hok S) (allI (SdI bo bt bm b nn D none 0 0 [] Ar nr cr Am nW cm Ar2 nr2 cr2)) (fun k it => ∃ A c, it = allI (SdI bo bt bm b nn D A (sldW ws (parse nW ws 0).1 S L k).length c (sldW ws (parse nW ws 0).1 S L k) Ar nr cr Am nW cm Ar2 nr2 cr2)) ⟨none, 0, rfl⟩ hs hV.rd (mk_wf hok hwf S)
  rw [mk_parse hok S] at C
  refine (C ?_).mono ?_
  · rintro k it w' hk ⟨A, c, rfl⟩ hP hrd hlo
    obtain ⟨g1, g2, g3, g4⟩ := mk_parts hok S hk
    obtain ⟨o1, o2, o3, o4, o5, o6, o7⟩ := hok.obj (i := k) hk
    have hfld := mk_fld hok S hk
    have hO := mkd_ok S (parse nW ws 0).1.length k (by omega)
    have hsum := sumO_le hok.pos hO
    have hsl := sldW_len hok S L k (by omega)
    have hwl := hok.len
    have hmx := hok.max
    rw [g2, g3]
    cases hsk : S k with
    | false =>
      refine (slide1_no w' bo bt bm b nn _ _ nr cr nW cm nr2 cr2 D _ Ar Am Ar2 _ _ _ _ hP).mono ?_
      rintro e w'' ⟨rfl, hS⟩
      have e1 : sldW ws (parse nW ws 0).1 S L (k + 1) = sldW ws (parse nW ws 0).1 S L k := by rw [sldW_succ, hsk]; simp
      refine ⟨rfl, _, ⟨A, c, rfl⟩, ?_⟩
      rw [e1]
      exact hS
    | true =>
      have hD : ∀ g, (allI (SdI bo bt bm b nn D A (sldW ws (parse nW ws 0).1 S L k).length c (sldW ws (parse nW ws 0).1 S L k) Ar nr cr Am nW cm Ar2 nr2 cr2)).fp g → ¬ (g < w.heap.size ∧ ¬ (allI (SdI bo bt bm b nn D none 0 0 [] Ar nr cr Am nW cm Ar2 nr2 cr2)).fp g) := fun g hg hd => by
        rcases hlo g hg with h | h
        · exact hd.2 h
        · omega
      refine (slide1_yes w' (fun g => g < w.heap.size ∧ ¬ (allI (SdI bo bt bm b nn D none 0 0 [] Ar nr cr Am nW cm Ar2 nr2 cr2)).fp g) bo bt bm b nn _ _ nr cr nW cm nr2 cr2 nW D _ Ar Am Ar2 ws (mkW ws (parse nW ws 0).1 S) _ (fldN ws (parse nW ws 0).1 k) L _ _ _ hP hD ⟨hrd, hV.cap, hV.nil, hV.wf⟩ hmx g4 g1 o4 o5 o6 o7 (by omega) hfld hN (hL k hk hsk) hq).mono ?_
      rintro e w'' ⟨A', c', rfl, hS⟩
      have e1 : sldW ws (parse nW ws 0).1 S L (k + 1) = sldW ws (parse nW ws 0).1 S L k ++ headW (lenN (parse nW ws 0).1 k) false (ageN ws (parse nW ws 0).1 k) :: (fldN ws (parse nW ws 0).1 k).map (transW (parse nW ws 0).1 L) := by rw [sldW_succ, hsk, if_pos rfl, doneS_nat hok L hk]
      refine ⟨rfl, _, ⟨A', c', rfl⟩, ?_⟩
      have e2 : (sldW ws (parse nW ws 0).1 S L (k + 1)).length = (sldW ws (parse nW ws 0).1 S L k).length + (1 + lenN (parse nW ws 0).1 k) := by
        rw [e1, List.length_append, List.length_cons, List.length_map, hok.fld hk]; omega
      rw [e2, e1]
      exact hS
  · rintro e w' ⟨rfl, it, ⟨A, c, rfl⟩, hS⟩
    exact ⟨A, _, c, rfl, hS⟩

theorem perm_s6 {α : Type} (r m j t q o : α) : [r, m, j, t, q, o].Perm [r, o, j, t, m, q] := by
  classical
  rw [List.perm_iff_count]
  intro x
  simp only [List.count_cons, List.count_nil]
  omega

set_option maxRecDepth 100000 in
set_option maxHeartbeats 16000000 in
theorem slide_ok (w : World) (AW AR : Option Addr) (nW cW nR cR : Nat) (ws rs : List Int) (hW : WsIn w AW nW cW ws) (hR : WsIn w AR nR cR rs) (hz : acheck nW nR ws rs = 0) :
    Calls Try.prog 50 #[.agg #[.slice AW nW cW, .slice AR nR cR]] w fun e w' => ∃ v, e = .returned (.tuple #[v, .int .i64 0]) ∧ Below w.heap.size w w' ∧
      ArenaRd w w' v ((reachR (graphOf ws (parse nW ws 0).1) (rs.map (turnW (ixOf (parse nW ws 0).1)))).flatMap (doneS ws (parse nW ws 0).1 (reachR (graphOf ws (parse nW ws 0).1) (rs.map (turnW (ixOf (parse nW ws 0).1))))))
        (rs.map (transW (parse nW ws 0).1 (reachR (graphOf ws (parse nW ws 0).1) (rs.map (turnW (ixOf (parse nW ws 0).1)))))) := by
  obtain ⟨h1, h2, h3, h4⟩ := acheck_zero hz
  have hok := arn_of hW h1 h3
  have hgood := good_arn hW hR hz
  have hgl : (graphOf ws (parse nW ws 0).1).length = (parse nW ws 0).1.length := by unfold graphOf; rw [List.length_map]
  have hvg : ∀ fs ∈ graphOf ws (parse nW ws 0).1, ValsOk (graphOf ws (parse nW ws 0).1).length fs := by rw [hgl]; exact ValsOk.of_graph fun x hx => hgood x (List.mem_append_right _ hx)
  have hvr : ValsOk (graphOf ws (parse nW ws 0).1).length (rs.map (turnW (ixOf (parse nW ws 0).1))) := by rw [hgl]; exact good_vals fun x hx => hgood x (List.mem_append_left _ hx)
  obtain ⟨hcl, hcr⟩ := reach_closed hvg hvr
  have hRO := reach_ok (gs := graphOf ws (parse nW ws 0).1) (vs := rs.map (turnW (ixOf (parse nW ws 0).1)))
  rw [hgl] at hRO
  have hmk : mkd (refS nW ws rs) (parse nW ws 0).1.length = reachR (graphOf ws (parse nW ws 0).1) (rs.map (turnW (ixOf (parse nW ws 0).1))) := by
    have h := reach_list (gs := graphOf ws (parse nW ws 0).1) (vs := rs.map (turnW (ixOf (parse nW ws 0).1))) (refS nW ws rs) (fun i _ => rfl)
    rw [hgl] at h
    exact h.symm
  have hq : ∀ i ∈ reachR (graphOf ws (parse nW ws 0).1) (rs.map (turnW (ixOf (parse nW ws 0).1))), newAt (parse nW ws 0).1 (reachR (graphOf ws (parse nW ws 0).1) (rs.map (turnW (ixOf (parse nW ws 0).1)))) i < 256 := fun i hi => by
    have := newAt_lt hok.pos hRO hi
    have := hok.len
    omega
  have hin : ∀ x, unR x = true → (turnW (ixOf (parse nW ws 0).1) x).2 = (ixOf (parse nW ws 0).1 (unA x) : Int) := fun x hr => by unfold turnW; rw [hr]; rfl
  have hLr : ∀ x ∈ rs, GoodW (parse nW ws 0).1 x ∧ (unR x = true → (ixOf (parse nW ws 0).1 (unA x) : Int) ∈ reachR (graphOf ws (parse nW ws 0).1) (rs.map (turnW (ixOf (parse nW ws 0).1)))) := fun x hx => ⟨hgood x (List.mem_append_left _ hx), fun hr => by
    have h5 := hcr (turnW (ixOf (parse nW ws 0).1) x) (List.mem_map.2 ⟨x, hx, rfl⟩) hr
    rw [hin x hr] at h5
    exact h5⟩
  have hLf : ∀ k, k < (parse nW ws 0).1.length → refS nW ws rs k = true → ∀ x ∈ fldN ws (parse nW ws 0).1 k, GoodW (parse nW ws 0).1 x ∧ (unR x = true → (ixOf (parse nW ws 0).1 (unA x) : Int) ∈ reachR (graphOf ws (parse nW ws 0).1) (rs.map (turnW (ixOf (parse nW ws 0).1)))) := fun k hk hs x hx =>
    ⟨fld_good (fun x hx => hgood x (List.mem_append_right _ hx)) k hk x hx, fun hr => by
      have h5 := hcl (k : Int) (by unfold refS at hs; simpa using hs) (turnW (ixOf (parse nW ws 0).1) x) (by rw [fieldsI_graph (by omega) (by omega)]; exact List.mem_map.2 ⟨x, hx, rfl⟩) hr
      rw [hin x hr] at h5
      exact h5⟩
  have hS0 := ((Sep.nil No w).blkAt 55 #[.slice AW nW cW, .slice AR nR cR] rfl).blkAt 55 #[.slice none 0 0, .slice none 0 0] (g := w.heap.size + 1) (by simp)
  obtain ⟨a1, a2, a3, a4⟩ := hS0.rules 0 (g := w.heap.size) (t := 55) rfl
  have a5 := a1 0
  have a6 := a1 1
  have HS0 := hide hS0
  have C1 := mark_ok _ AW AR nW cW nR cR 64 ws rs (hW.below hS0.below_) (hR.below hS0.below_) hz (by omega) (by omega)
  rw [show ((64 : Nat) : Int) = 64 from rfl] at C1
  have C1 := hide C1
  have hwf := hW.wf
  have C3 := hide (fun w' Aw cw hw => slots_any w' Aw nW cw ws (refS nW ws rs) hok hw hwf)
  have C4 := hide (fun w' b nn D hX hM hN => slturned_any w' AR nR cR b nn nW D ws rs _ hX (by omega) hM hN hLr hq)
  have C5 := hide (fun w' bo bt bm b nn cm nr cr nr2 cr2 D Ar Am Ar2 hs hV hN => walkSd_any w' bo bt bm b nn cm nr cr nr2 cr2 nW D Ar Am Ar2 ws _ (refS nW ws rs) hok hwf hs hV hN hLf hq)
  have HMF := hide (mk_wf hok hwf (refS nW ws rs))
  have HRR := hide hR
  have hsl : sldW ws (parse nW ws 0).1 (refS nW ws rs) (reachR (graphOf ws (parse nW ws 0).1) (rs.map (turnW (ixOf (parse nW ws 0).1)))) (parse nW ws 0).1.length = (reachR (graphOf ws (parse nW ws 0).1) (rs.map (turnW (ixOf (parse nW ws 0).1)))).flatMap (doneS ws (parse nW ws 0).1 (reachR (graphOf ws (parse nW ws 0).1) (rs.map (turnW (ixOf (parse nW ws 0).1))))) := by unfold sldW; rw [hmk]
  rw [hsl] at C5
  rw [hmk] at C3
  obtain ⟨L, hL⟩ : ∃ L, reachR (graphOf ws (parse nW ws 0).1) (rs.map (turnW (ixOf (parse nW ws 0).1))) = L := ⟨_, rfl⟩
  simp only [hL] at C3 C4 C5 ⊢
  obtain ⟨pre, hpre⟩ : ∃ pre, (parse nW ws 0).1 = pre := ⟨_, rfl⟩
  rw [hpre] at C1 C3 C4 C5 HMF ⊢
  obtain ⟨V, hV⟩ : ∃ V, mkW ws pre (refS nW ws rs) = V := ⟨_, rfl⟩
  rw [hV] at C1 C3 C5 HMF
  obtain ⟨xs, hxs⟩ : ∃ xs, L.flatMap (doneS ws pre L) = xs := ⟨_, rfl⟩
  obtain ⟨ys, hys⟩ : ∃ ys, rs.map (transW pre L) = ys := ⟨_, rfl⟩
  rw [hxs] at C5
  rw [hys] at C4
  rw [hxs, hys]
  clear hS0 hz h3 h4 hok hgood hgl hvg hvr hcl hcr hRO hmk hq hin hLr hLf hsl hL hpre hV hxs hys hW hR hwf a1 a4
  go_enter Try.func50, Try.ntmps50
  go_wp2_with fail
  refine C1.out.mono ?_
  rintro e w2 ⟨Aw, cw, Ar, cr, rfl, hP⟩
  have hWs : WsIn w2 Aw nW cw V := wsIn_of_row (hP.get 0 rfl) HMF.out
  have hB2 := HS0.out.below_.trans (hP.below_.mono HS0.out.below_.size)
  have BA2 := (HS0.out.get 0 (i := blkI w.heap.size 55 #[.slice AW nW cW, .slice AR nR cR]) rfl)
  have BR2 := (HS0.out.get 1 (i := blkI (w.heap.size + 1) 55 #[.slice none 0 0, .slice none 0 0]) rfl)
  have bA2 : Blk w2 w.heap.size 55 #[.slice AW nW cW, .slice AR nR cR] := Blk.below_ BA2 hP.below_
  have bR2 : Blk w2 (w.heap.size + 1) 55 #[.slice none 0 0, .slice none 0 0] := Blk.below_ BR2 hP.below_
  have hS2 := (Sep.nil No w2).blkAt 55 #[.slice Aw nW cw, .slice Ar nR cr] rfl
  obtain ⟨m1, m2, m3, m4⟩ := hS2.rules 0 (g := w2.heap.size) (t := 55) rfl
  have m5 := m1 0
  have C := hide (C3.out _ Aw cw (hWs.below hS2.below_).rd)
  have HWS := hide hWs
  have HB2 := hide hB2
  have HA2 := hide bA2
  have HR2 := hide bR2
  have HS2 := hide hS2
  clear hWs hP hB2 BA2 BR2 bA2 bR2 hS2 C1 C3 HS0 m1 m4 a2 a3 a5 a6
  go_wp2_with fail
  refine C.out.mono ?_
  rintro e w4 ⟨b, D, rfl, hN, hP⟩
  have hS4 := (HS2.out.snocNew hP.below_ _ (hP.get 0 rfl) (fun g hg => (hP.lo 0 rfl g hg).resolve_left (fun h => h))).blkAt 117 #[.map (some b)] rfl
  have hb4 := hS4.below_
  obtain ⟨u1, u2, u3⟩ := (HA2.out.below_ hb4).rules
  have u5 := u1 1
  obtain ⟨n1, n2, n3, n4⟩ := hS4.rules 2 (g := w4.heap.size) (t := 117) rfl
  have n5 := n1 0
  have C := hide (C4.out _ b L.length D ((HRR.out.below (HB2.out.trans (hb4.mono HB2.out.size))).rd) (hS4.get 1 rfl) hN)
  have HS4 := hide hS4
  have HN := hide hN
  clear hP hS4 hb4 hN HS2 u1 n1 n4 m2 m3 m5 C4
  go_wp2_with fail
  refine C.out.mono ?_
  rintro e w6 ⟨Ar2, c2, rfl, hP⟩
  have hS6 := ((HS4.out.snocNew hP.below_ _ (hP.get 0 rfl) (fun g hg => (hP.lo 0 rfl g hg).resolve_left (fun h => h))).blkAt 55 #[.slice none 0 0, .slice Ar2 nR c2] rfl).nilRow0 24 1
  have hS7 : Sep No w2 _ (allI (SdI w6.heap.size w4.heap.size w2.heap.size b L.length D none 0 0 [] Ar2 nR c2 Aw nW cw Ar nR cr) :: [rowI 24 1 Ar2 nR c2 (u64s ys)]) := Sep.join (l := [_, _, _, _, _]) (hS6.perm (perm_s6 _ _ _ _ _ _))
  obtain ⟨m1, m2, m3, m4⟩ := (hS7.split).rules 4 (g := w2.heap.size) (t := 55) rfl
  have m5 := m1 0
  have C := hide (C5.out _ w6.heap.size w4.heap.size w2.heap.size b L.length cw nR c2 nR cr D Ar2 Aw Ar (hS7.get 0 rfl) ⟨((HWS.out.rd.more (D' := fun g => g < w2.heap.size) (fun k hk _ => hk)).below hS7.below_).more (fun g _ hg hf => by
      rcases hS7.lo 0 rfl g hf with h | h
      · exact h
      · omega), HWS.out.cap, HWS.out.nil, HWS.out.wf⟩ HN.out)
  have HS7 := hide hS7
  clear hP hS6 hS7 HS4 C5 m1 m4 u2 u3 u5 n2 n3 n5 HN HWS
  go_wp2_with fail
  refine C.out.mono ?_
  rintro e w8 ⟨A, n, c, rfl, hP⟩
  have hS8 := (HS7.out.call 0 rfl hP).split
  obtain ⟨o1, o2, o3, o4⟩ := hS8.rules 1 (g := w6.heap.size) (t := 55) rfl
  have o5 := o1 0
  have o6 := o1 1
  have hR8 := HR2.out.below_ hS8.below_
  obtain ⟨y1, y2, y3⟩ := hR8.rules
  have hB8 := HB2.out.trans (hS8.below_.mono HB2.out.size)
  have k1 := hS8.rd 0 rfl
  have k2 := hS8.rd 5 rfl
  have hr2 := HR2.out.lt
  have HK1 := hide k1
  have HK2 := hide k2
  have HR8 := hide hR8
  have HB8 := hide hB8
  clear hP hS8 HS7 C o1 o4 m2 m3 m5 hR8 hB8 k1 k2
  go_wp2_with fail
  have hB9 := (HB8.out.setCell (p := ⟨w.heap.size + 1, 0, none⟩) (by simp) (.slice A n c)).setCell (p := ⟨w.heap.size + 1, 1, none⟩) (by simp) (.slice Ar2 nR c2)
  have hc : Chg (fun g => g = w.heap.size + 1) w8 ((w8.setCell ⟨w.heap.size + 1, 0, none⟩ (.slice A n c)).setCell ⟨w.heap.size + 1, 1, none⟩ (.slice Ar2 nR c2)) := ((Chg.refl (fun g => g = w.heap.size + 1) w8).setCell (p := ⟨w.heap.size + 1, 0, none⟩) (.inl rfl) _).setCell (p := ⟨w.heap.size + 1, 1, none⟩) (.inl rfl) _
  refine bodyPost_ret (v := .tuple #[.agg #[.slice A n c, .slice Ar2 nR c2], .int .i64 0]) (by simp [results, Try.results50, go_sem, y1]) rfl ⟨_, rfl, hB9, ?_⟩
  exact ⟨_, _, _, _, _, _, rfl, (HK1.out.chg hc (fun g h1 h2 => by omega)).more (fun g _ h => by omega), (HK2.out.chg hc (fun g h1 h2 => by omega)).more (fun g _ h => by omega)⟩

set_option maxRecDepth 100000 in
set_option maxHeartbeats 4000000 in
theorem slide_bad (w : World) (AW AR : Option Addr) (nW cW nR cR : Nat) (ws rs : List Int) (hW : WsIn w AW nW cW ws) (hR : WsIn w AR nR cR rs) (hz : acheck nW nR ws rs ≠ 0) :
    Calls Try.prog 50 #[.agg #[.slice AW nW cW, .slice AR nR cR]] w fun e w' => e = .returned (.tuple #[.agg #[.slice none 0 0, .slice none 0 0], .int .i64 (acheck nW nR ws rs)]) ∧ Below w.heap.size w w' := by
  have hS0 := ((Sep.nil No w).blkAt 55 #[.slice AW nW cW, .slice AR nR cR] rfl).blkAt 55 #[.slice none 0 0, .slice none 0 0] (g := w.heap.size + 1) (by simp)
  obtain ⟨a1, a2, a3, a4⟩ := hS0.rules 0 (g := w.heap.size) (t := 55) rfl
  have HS0 := hide hS0
  have C1 := hide (mark_bad _ AW AR nW cW nR cR 64 ws rs (hW.below hS0.below_) (hR.below hS0.below_) hz)
  obtain ⟨x, hx⟩ : ∃ x, acheck nW nR ws rs = x := ⟨_, rfl⟩
  rw [hx] at C1 hz ⊢
  have y1 : (x != 0) = true := by rw [bne_iff_ne]; exact hz
  clear hS0 hx hz
  go_enter Try.func50, Try.ntmps50
  go_wp2_with fail
  refine C1.out.mono ?_
  rintro e w1 ⟨rfl, hb1⟩
  have hS1 := HS0.out.below hb1
  have hS1 := hS1.blkAt 55 #[.slice none 0 0, .slice none 0 0] rfl
  have HS1 := hide hS1
  clear a1 a2 a3 a4
  obtain ⟨q1, q2, q3, q4⟩ := hS1.rules 1 (g := w.heap.size + 1) (t := 55) rfl
  clear hS1
  go_wp2_with fail
  have hF := (HS1.out.set_ 1 (g := w.heap.size + 1) (t := 55) rfl 0 (.slice none 0 0)).set_ 1 (g := w.heap.size + 1) (t := 55) rfl 1 (.slice none 0 0)
  refine bodyPost_ret (v := .tuple #[.agg #[.slice none 0 0, .slice none 0 0], .int .i64 x]) (by simp [results, Try.results50, go_sem, q1]) rfl ⟨rfl, hF.below_⟩
end Go.Proofs.Ytpbafmdebflbpaa
