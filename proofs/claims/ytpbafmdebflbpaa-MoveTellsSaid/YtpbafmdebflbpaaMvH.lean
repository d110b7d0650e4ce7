/- move: the reference's Move; the law MoveTells: the walk. -/
import Derived.Test.YtpbafmdebflbpaaMvG
import Derived.Test.YtpbafmdebflbpaaArL
import Derived.Deep.RegionHeld3
namespace Go.Proofs.Ytpbafmdebflbpaa
open Go.RowKit Go.Maps

theorem ValsOk.of_graph {nW : Nat} {ws : List Int} (h : ∀ x ∈ fieldsOf ws (parse nW ws 0).1, GoodW (parse nW ws 0).1 x) : ∀ fs ∈ graphOf ws (parse nW ws 0).1, ValsOk (parse nW ws 0).1.length fs := by
  intro fs hfs
  obtain ⟨p, hp, rfl⟩ := List.mem_map.1 hfs
  exact good_vals fun x hx => h x (List.mem_flatMap.2 ⟨p, hp, hx⟩)
theorem place_lt {L : List Int} {x : Int} (h : x ∈ L) : placeN L x < L.length := by unfold placeN; rw [if_pos h]; exact List.idxOf_lt_length_of_mem h

set_option maxRecDepth 100000 in
set_option maxHeartbeats 16000000 in
theorem refMove_any (w : World) (AW AR : Option Addr) (nW cW nR cR : Nat) (ws rs : List Int) (hW : WsIn w AW nW cW ws) (hR : WsIn w AR nR cR rs) (hz : acheck nW nR ws rs = 0) :
    Calls Try.prog 33 #[.agg #[.slice AW nW cW, .slice AR nR cR]] w fun e w' => ∃ v, e = .returned v ∧ Below w.heap.size w w' ∧
      ArenaRd w w' v ((order (graphOf ws (parse nW ws 0).1) (rs.map (turnW (ixOf (parse nW ws 0).1)))).flatMap (doneO ws (parse nW ws 0).1 (order (graphOf ws (parse nW ws 0).1) (rs.map (turnW (ixOf (parse nW ws 0).1))))))
        (rs.map (transW (parse nW ws 0).1 (order (graphOf ws (parse nW ws 0).1) (rs.map (turnW (ixOf (parse nW ws 0).1)))))) := by
  obtain ⟨h1, h2, h3, h4⟩ := acheck_zero hz
  have hw0 : ∀ x ∈ ws, 0 ≤ x := fun x hx => (hW.wf x hx).1
  have hG := good_of_check h4
  have hGW : ∀ x ∈ rs ++ fieldsOf ws (parse nW ws 0).1, GoodW (parse nW ws 0).1 x := fun x hx => by
    have hb : 0 ≤ x ∧ x ≤ 18446744073709551615 := by
      rcases List.mem_append.1 hx with h | h
      · exact hR.wf x h
      · obtain ⟨p, _, hp⟩ := List.mem_flatMap.1 h
        exact hW.wf x (List.mem_of_mem_drop (List.mem_of_mem_take hp))
    exact ⟨hb.1, hb.2, hG.e x hx, hG.ix x hx⟩
  have hgl : (graphOf ws (parse nW ws 0).1).length = (parse nW ws 0).1.length := by unfold graphOf; rw [List.length_map]
  have hvg : ∀ fs ∈ graphOf ws (parse nW ws 0).1, ValsOk (graphOf ws (parse nW ws 0).1).length fs := by rw [hgl]; exact ValsOk.of_graph fun x hx => hGW x (List.mem_append_right _ hx)
  have hvr : ValsOk (graphOf ws (parse nW ws 0).1).length (rs.map (turnW (ixOf (parse nW ws 0).1))) := by rw [hgl]; exact good_vals fun x hx => hGW x (List.mem_append_left _ hx)
  have hOK := order_ok hvg hvr
  obtain ⟨hcl, hcr⟩ := order_closed hvg hvr
  rw [hgl] at hOK
  have hfl : ∀ fs ∈ graphOf ws (parse nW ws 0).1, fs.length ≤ 4 := fun fs hfs => by
    obtain ⟨p, hp, rfl⟩ := List.mem_map.1 hfs
    have h5 := parse_mem nW ws 0 p hw0 hp
    have h6 := h5.2.1.1
    rw [h5.2.2.1] at h6
    unfold fieldsAt
    rw [List.length_map, List.length_take]
    omega
  have hpl : (parse nW ws 0).1.length ≤ 256 := by
    have h6 := parse_sum nW ws 0 (by omega) hw0
    have h7 : ∀ m : List (Nat × Nat), m.length ≤ (m.map fun p => 1 + p.2).sum := fun m => by
      induction m with
      | nil => simp
      | cons a m ih => simp only [List.map_cons, List.sum_cons, List.length_cons]; omega
    have h8 := h7 (parse nW ws 0).1
    have h9 := hW.len
    omega
  have hwd := move_words (nW := nW) (ws := ws) 1 hw0 (by rw [hW.len]; exact h1) (fun x hx => hGW x (List.mem_append_right _ hx)) hOK hcl
  have hrd : ((rs.map (turnW (ixOf (parse nW ws 0).1))).map (turnL (order (graphOf ws (parse nW ws 0).1) (rs.map (turnW (ixOf (parse nW ws 0).1)))))).map (packV (atF (renumF (graphOf ws (parse nW ws 0).1) (order (graphOf ws (parse nW ws 0).1) (rs.map (turnW (ixOf (parse nW ws 0).1))))))) = rs.map (transW (parse nW ws 0).1 (order (graphOf ws (parse nW ws 0).1) (rs.map (turnW (ixOf (parse nW ws 0).1))))) := by
    rw [List.map_map, List.map_map]
    refine List.map_congr_left fun x hx => ?_
    refine pack_trans _ hw0 (by rw [hW.len]; exact h1) (hGW x (List.mem_append_left _ hx)) hOK (renum_at hw0 hOK.rng) (fun hr => ?_)
    have h5 := hcr (turnW (ixOf (parse nW ws 0).1) x) (List.mem_map.2 ⟨x, hx, rfl⟩) hr
    have h6 : (turnW (ixOf (parse nW ws 0).1) x).2 = (ixOf (parse nW ws 0).1 (unA x) : Int) := by unfold turnW; rw [hr]; rfl
    rw [h6] at h5
    exact h5
  have hhd : ∀ h ∈ headsAt (headsL ws (parse nW ws 0).1) (order (graphOf ws (parse nW ws 0).1) (rs.map (turnW (ixOf (parse nW ws 0).1)))) 1, HdOk h := fun h hh => by
    obtain ⟨i, hi, rfl⟩ := List.mem_map.1 hh
    refine older_ok (by omega) ?_
    obtain ⟨i0, i1⟩ := hOK.rng i hi
    have hil : i.toNat < (headsL ws (parse nW ws 0).1).length := by unfold headsL; rw [List.length_map]; omega
    rw [List.getD_eq_getElem?_getD, List.getElem?_eq_getElem hil]
    exact headsL_ok hw0 _ (List.getElem_mem hil)
  have C1 := fun w' (hb : Below w.heap.size w w') => refRead_any w' AW AR nW cW nR cR ws rs (hW.below hb) (hR.below hb) hz
  have C4 := fun w' Al nl cl (hb : Below w.heap.size w w') l hl hnl hlr => headsOf_any w' AW AR Al nW cW nR cR nl cl 1 ws l (hW.below hb) h1 h3 hl hnl (by omega) hlr
  have hrl : (rs.map (turnW (ixOf (parse nW ws 0).1))).length ≤ 8 := by rw [List.length_map, hR.len]; exact h2
  rw [← hwd.trans (show _ = (order (graphOf ws (parse nW ws 0).1) (rs.map (turnW (ixOf (parse nW ws 0).1)))).flatMap (doneO ws (parse nW ws 0).1 (order (graphOf ws (parse nW ws 0).1) (rs.map (turnW (ixOf (parse nW ws 0).1))))) from rfl), ← hrd]
  rw [← hgl] at hOK hpl
  have hnum : (parse nW ws 0).1.length = (graphOf ws (parse nW ws 0).1).length := hgl.symm
  simp only [hnum] at C4
  obtain ⟨hs, hhs⟩ : ∃ hs, headsL ws (parse nW ws 0).1 = hs := ⟨_, rfl⟩
  simp only [hhs] at C4 hhd ⊢
  obtain ⟨vs, hvs⟩ : ∃ vs, rs.map (turnW (ixOf (parse nW ws 0).1)) = vs := ⟨_, rfl⟩
  simp only [hvs] at C1 hvr hOK hcl hcr hhd hrl ⊢
  obtain ⟨gs, hgs⟩ : ∃ gs, graphOf ws (parse nW ws 0).1 = gs := ⟨_, rfl⟩
  simp only [hgs] at C1 C4 hvg hvr hOK hcl hcr hfl hpl hhd ⊢
  obtain ⟨L, hL⟩ : ∃ L, order gs vs = L := ⟨_, rfl⟩
  simp only [hL] at hOK hcl hcr hhd ⊢
  have C2 := fun w' v (h : GraphRd w' (fun _ => True) v gs vs) => order_any w' v gs vs h (by omega) (by omega) (fun fs hfs => by have := hfl fs hfs; omega) hvr hvg
  simp only [hL] at C2
  have hLl := hOK.len
  have C3 := fun w' v Al nl cl (h : GraphRd w' (fun _ => True) v gs vs) (hl : Rd w' (fun _ => True) 1 Al nl (ints L)) hnl => renumber_any w' v Al nl cl gs vs L h hl hOK.rng (by omega) hnl (by omega) (fun fs hfs => by have := hfl fs hfs; omega)
  have hrn : (renumF gs L).length = L.length := by unfold renumF; rw [List.length_map]
  have C5 := fun w' v AH nH cH (h : GraphRd w' (fun _ => True) v (renumF gs L) (vs.map (turnL L))) (hH : Rd w' (fun _ => True) 3 AH nH (hcells (headsAt hs L 1))) =>
    refLayG_any w' v AH nH cH (renumF gs L) (vs.map (turnL L)) (headsAt hs L 1) h (by rw [hrn]; unfold headsAt; rw [List.length_map]) hhd hH (by omega) (by rw [List.length_map]; exact hrl) (fun fs hfs => by
      obtain ⟨x, hx, rfl⟩ := List.mem_map.1 hfs
      rw [List.length_map]
      obtain ⟨x0, x1⟩ := hOK.rng x hx
      unfold fieldsI
      rw [List.getD_eq_getElem?_getD, List.getElem?_eq_getElem (by omega)]
      exact hfl _ (List.getElem_mem _)) (fun fs hfs v hv h1 => by
      obtain ⟨x, hx, rfl⟩ := List.mem_map.1 hfs
      obtain ⟨u, hu, rfl⟩ := List.mem_map.1 hv
      rw [hrn]
      unfold turnL at h1 ⊢
      by_cases h9 : u.1 = true
      · rw [if_pos h9]
        have := place_lt (hcl x hx u hu h9)
        dsimp only
        omega
      · rw [if_neg h9] at h1; exact absurd h1 h9) (fun v hv h1 => by
      obtain ⟨u, hu, rfl⟩ := List.mem_map.1 hv
      rw [hrn]
      unfold turnL at h1 ⊢
      by_cases h9 : u.1 = true
      · rw [if_pos h9]
        have := place_lt (hcr u hu h9)
        dsimp only
        omega
      · rw [if_neg h9] at h1; exact absurd h1 h9)
  have HC1 := hide C1
  have HC2 := hide C2
  have HC3 := hide C3
  have HC4 := hide C4
  have HC5 := hide C5
  have HLR := hide hOK.rng
  have hL256 : L.length ≤ 256 := by omega
  have hB0 : Below w.heap.size w ((w.alloc (.cells #[.slice AW nW cW, .slice AR nR cR] 55)).alloc (.cells #[.slice none 0 0, .slice none 0 0] 55)) := ((Below.refl _ w).alloc (Nat.le_refl _) _).alloc (by simp) _
  have b1 := (Blk.new w 55 #[.slice AW nW cW, .slice AR nR cR]).alloc (.cells #[.slice none 0 0, .slice none 0 0] 55)
  have b2 := Blk.new (w.alloc (.cells #[.slice AW nW cW, .slice AR nR cR] 55)) 55 #[.slice none 0 0, .slice none 0 0]
  rw [World.size_alloc] at b2
  have HB := hide hB0
  have HA := hide b1
  have HR := hide b2
  clear C1 C2 C3 C4 C5 hOK hwd hrd hnum hhs hvs hgs hL hG hGW hgl hvg hvr hcl hcr hfl hpl hhd hrl hLl hrn hz h1 h2 h3 h4 hw0 hB0 b1 b2
  go_enter Try.func33, Try.ntmps33
  go_wp2_with fail
  refine (HC1.out _ HB.out).mono ?_
  rintro e w1 ⟨v, rfl, hb1, hG1⟩
  obtain ⟨AO, nO, cO, Ag, ng, cg, obs, rfl, g1, g2, g3⟩ := hG1.ex
  have hA1 := (HA.out.below_ hb1).alloc (.cells #[.slice AO nO cO, .slice Ag ng cg] 52)
  have hR1 := (HR.out.below_ hb1).alloc (.cells #[.slice AO nO cO, .slice Ag ng cg] 52)
  have hV1 := Blk.new w1 52 #[.slice AO nO cO, .slice Ag ng cg]
  have hB1 := HB.out.trans (hb1.mono HB.out.size)
  have hB1' := hB1.alloc hB1.size (.cells #[.slice AO nO cO, .slice Ag ng cg] 52)
  have hG1' : GraphRd (w1.alloc (.cells #[.slice AO nO cO, .slice Ag ng cg] 52)) (fun _ => True) (.agg #[.slice AO nO cO, .slice Ag ng cg]) gs vs := (GraphRd.more hG1 (fun _ _ _ => trivial)).below ((Below.refl _ w1).alloc (Nat.le_refl _) _)
  have HB1 := hide hB1'
  have HA1 := hide hA1
  have HR1 := hide hR1
  have HV1 := hide hV1
  have HG1 := hide hG1'
  clear hA1 hR1 hV1 hB1 hB1' hG1 hG1' g1 g2 g3 hb1 HB HA HR HC1
  go_wp2_with fail
  refine (HC2.out _ _ HG1.out).mono ?_
  rintro e w2 ⟨Al, nl, cl, rfl, hP⟩
  have hb2 := hP.below_
  have hnl : L.length = nl := by have := (hP.rd_ 0 rfl).1; simpa using this
  have HB2 := hide (HB1.out.trans (hb2.mono HB1.out.size))
  have HA2 := hide (HA1.out.below_ hb2)
  have HR2 := hide (HR1.out.below_ hb2)
  have HV2 := hide (HV1.out.below_ hb2)
  have HG2 := hide (HG1.out.below hb2)
  have HL2 := hide (hP.rd_ 0 rfl)
  obtain ⟨v1, v2, v3⟩ := HV2.out.rules
  obtain ⟨u1, u2, u3⟩ := HA2.out.rules
  have v5 : w2.cell? ⟨w1.heap.size, 0, none⟩ = some (.slice AO nO cO) := by rw [v1]; rfl
  have v6 : w2.cell? ⟨w1.heap.size, 1, none⟩ = some (.slice Ag ng cg) := by rw [v1]; rfl
  have u5 : w2.cell? ⟨w.heap.size, 0, none⟩ = some (.slice AW nW cW) := by rw [u1]; rfl
  have u6 : w2.cell? ⟨w.heap.size, 1, none⟩ = some (.slice AR nR cR) := by rw [u1]; rfl
  clear hb2 hP v1 v2 v3 u1 u2 u3 HB1 HA1 HR1 HV1 HG1 HC2
  go_wp2_with fail
  go_region_law (first
    | (try go_simp
       go_at_call 68
       refine (HC3.out w2.drew _ Al nl cl (HG2.out.below (Below.refl _ w2).drew) (HL2.out.below (Below.refl _ w2).drew) (by omega)).mono ?_
       rintro e w3 ⟨vr, rfl, hb3, hG3⟩
       have hB3 := HB2.out.drew.trans (hb3.mono HB2.out.size)
       have hA3 := HA2.out.drew.below_ hb3
       have hR3 := HR2.out.drew.below_ hb3
       have hL3 := (HL2.out.below (Below.refl _ w2).drew).below hb3
       (have d5 : w3.cell? ⟨w.heap.size, 0, none⟩ = some (.slice AW nW cW) := by rw [hA3.cell]; rfl)
       (have d6 : w3.cell? ⟨w.heap.size, 1, none⟩ = some (.slice AR nR cR) := by rw [hA3.cell]; rfl))
    | (try go_simp
       go_at_call 69
       refine (HC4.out w3 Al nl cl hB3 L hL3 (by omega) HLR.out).mono ?_
       rintro e w4 ⟨AH, cH, rfl, hP4⟩
       have hb4 := hP4.below_
       have hB4 := hB3.trans (hb4.mono hB3.size)
       have hR4 := hR3.below_ hb4
       have hG4 := GraphRd.more (hG3.below hb4) (D' := fun _ => True) (fun _ _ _ => trivial)
       have hH4 := hP4.rd_ 0 rfl)
    | (try go_simp
       go_at_call 29
       refine (HC5.out w4 vr AH nl cH hG4 hH4).mono ?_
       rintro e w5 ⟨va, rfl, hb5, hAr5⟩
       obtain ⟨X1, m1, e1, X2, m2, e2, rfl, k1, k2⟩ := hAr5
       have hB5 := hB4.trans (hb5.mono hB4.size)
       have hR5 := hR4.below_ hb5
       obtain ⟨y1, y2, y3⟩ := hR5.rules))
  all_goals
    go_wp2_with fail
    have hF := (hR5.set_ 0 (.slice X1 m1 e1)).set_ 1 (.slice X2 m2 e2)
    have hB6 := (hB5.setCell (p := ⟨w.heap.size + 1, 0, none⟩) (by simp) (.slice X1 m1 e1)).setCell (p := ⟨w.heap.size + 1, 1, none⟩) (by simp) (.slice X2 m2 e2)
    have hc : Chg (fun g => g = w.heap.size + 1) w5 ((w5.setCell ⟨w.heap.size + 1, 0, none⟩ (.slice X1 m1 e1)).setCell ⟨w.heap.size + 1, 1, none⟩ (.slice X2 m2 e2)) := ((Chg.refl (fun g => g = w.heap.size + 1) w5).setCell (p := ⟨w.heap.size + 1, 0, none⟩) (.inl rfl) _).setCell (p := ⟨w.heap.size + 1, 1, none⟩) (.inl rfl) _
    refine bodyPost_ret (v := .agg #[.slice X1 m1 e1, .slice X2 m2 e2]) (by simp [results, Try.results33, go_sem, y1]) rfl ⟨_, rfl, hB6, ?_⟩
    have hs4 := hB4.size
    have hr4 := hR4.lt
    exact ⟨_, _, _, _, _, _, rfl, (k1.chg hc (fun g h1 h2 => by omega)).more (fun g _ h => by omega), (k2.chg hc (fun g h1 h2 => by omega)).more (fun g _ h => by omega)⟩

theorem arenas_nil (w : World) : ArenaRd w w (.agg #[.slice none 0 0, .slice none 0 0]) [] [] := ⟨_, _, _, _, _, _, rfl, Rd.nil, Rd.nil⟩
set_option maxRecDepth 100000 in
set_option maxHeartbeats 4000000 in
theorem copy_bad (w : World) (AW AR : Option Addr) (nW cW nR cR : Nat) (ws rs : List Int) (hW : WsIn w AW nW cW ws) (hR : WsIn w AR nR cR rs) (hz : acheck nW nR ws rs ≠ 0) :
    Calls Try.prog 31 #[.agg #[.slice AW nW cW, .slice AR nR cR]] w fun e w' => e = .returned (.tuple #[.agg #[.slice none 0 0, .slice none 0 0], .int .i64 (acheck nW nR ws rs)]) ∧ Below w.heap.size w w' := by
  have hS0 := ((Sep.nil No w).blkAt 55 #[.slice AW nW cW, .slice AR nR cR] rfl).blkAt 55 #[.slice none 0 0, .slice none 0 0] (g := w.heap.size + 1) (by simp)
  obtain ⟨a1, a2, a3, a4⟩ := hS0.rules 0 (g := w.heap.size) (t := 55) rfl
  have HS0 := hide hS0
  have C1 := hide (arenaCheck_any _ AW AR nW cW nR cR ws rs (hW.below hS0.below_) (hR.below hS0.below_))
  obtain ⟨x, hx⟩ : ∃ x, acheck nW nR ws rs = x := ⟨_, rfl⟩
  rw [hx] at C1 hz ⊢
  have y1 : (x != 0) = true := by rw [bne_iff_ne]; exact hz
  clear hS0 hx hz
  go_enter Try.func31, Try.ntmps31
  go_wp2_with fail
  refine C1.out.mono ?_
  rintro e w1 ⟨rfl, hb1⟩
  have hS1 := HS0.out.below hb1
  have HS1 := hide hS1
  clear a1 a2 a3 a4
  obtain ⟨q1, q2, q3, q4⟩ := hS1.rules 1 (g := w.heap.size + 1) (t := 55) rfl
  clear hS1
  go_wp2_with fail
  have hF := (HS1.out.set_ 1 (g := w.heap.size + 1) (t := 55) rfl 0 (.slice none 0 0)).set_ 1 (g := w.heap.size + 1) (t := 55) rfl 1 (.slice none 0 0)
  refine bodyPost_ret (v := .tuple #[.agg #[.slice none 0 0, .slice none 0 0], .int .i64 x]) (by simp [results, Try.results31, go_sem, q1]) rfl ⟨rfl, hF.below_⟩

set_option maxRecDepth 100000 in
set_option maxHeartbeats 8000000 in
theorem moveTells_walk (w : World) (AW AR : Option Addr) (nW cW nR cR : Nat) (ws rs : List Int) (hW : WsIn w AW nW cW ws) (hR : WsIn w AR nR cR rs) :
    Calls Try.prog 7 #[.agg #[.slice AW nW cW, .slice AR nR cR]] w fun e w' => e = .returned (.bool true) ∧ Below w.heap.size w w' := by
  have hB0 : Below w.heap.size w (w.alloc (.cells #[.slice AW nW cW, .slice AR nR cR] 55)) := (Below.refl _ w).alloc (Nat.le_refl _) _
  have BA := hide (Blk.new w 55 #[.slice AW nW cW, .slice AR nR cR])
  have HB0 := hide hB0
  have C4 := hide (fun w' (hb : Below w.heap.size w w') => refAcheck_any w' AW AR nW cW nR cR ws rs (hW.below hb) (hR.below hb))
  by_cases hz : acheck nW nR ws rs = 0
  · have C1 := hide (copy_ok _ AW AR nW cW nR cR ws rs (hW.below hB0) (hR.below hB0) hz)
    have C2 := hide (fun w' (hb : Below w.heap.size w w') => refMove_any w' AW AR nW cW nR cR ws rs (hW.below hb) (hR.below hb) hz)
    rw [hz] at C4
    obtain ⟨h1, h2, h3, h4⟩ := acheck_zero hz
    have hgl : (graphOf ws (parse nW ws 0).1).length = (parse nW ws 0).1.length := by unfold graphOf; rw [List.length_map]
    have hG := good_of_check h4
    have hGW : ∀ x ∈ rs ++ fieldsOf ws (parse nW ws 0).1, GoodW (parse nW ws 0).1 x := fun x hx => by
      have hb : 0 ≤ x ∧ x ≤ 18446744073709551615 := by
        rcases List.mem_append.1 hx with h | h
        · exact hR.wf x h
        · obtain ⟨p, _, hp⟩ := List.mem_flatMap.1 h
          exact hW.wf x (List.mem_of_mem_drop (List.mem_of_mem_take hp))
      exact ⟨hb.1, hb.2, hG.e x hx, hG.ix x hx⟩
    have hw0 : ∀ x ∈ ws, 0 ≤ x := fun x hx => (hW.wf x hx).1
    have hvg : ∀ fs ∈ graphOf ws (parse nW ws 0).1, ValsOk (graphOf ws (parse nW ws 0).1).length fs := by rw [hgl]; exact ValsOk.of_graph fun x hx => hGW x (List.mem_append_right _ hx)
    have hvr : ValsOk (graphOf ws (parse nW ws 0).1).length (rs.map (turnW (ixOf (parse nW ws 0).1))) := by rw [hgl]; exact good_vals fun x hx => hGW x (List.mem_append_left _ hx)
    have hOK := order_ok hvg hvr
    rw [hgl] at hOK
    have hsum := sumO_le hw0 hOK
    have hdl := done_len (ws := ws) (pre := (parse nW ws 0).1) (L := order (graphOf ws (parse nW ws 0).1) (rs.map (turnW (ixOf (parse nW ws 0).1)))) (l := order (graphOf ws (parse nW ws 0).1) (rs.map (turnW (ixOf (parse nW ws 0).1)))) (fun i hi => (rawO_len (nW := nW) hw0 (hOK.rng i hi).1 (hOK.rng i hi).2).1)
    obtain ⟨L, hL⟩ : ∃ L, order (graphOf ws (parse nW ws 0).1) (rs.map (turnW (ixOf (parse nW ws 0).1))) = L := ⟨_, rfl⟩
    simp only [hL] at C1 C2 hsum hdl
    obtain ⟨xs, hxs⟩ : ∃ xs, L.flatMap (doneO ws (parse nW ws 0).1 L) = xs := ⟨_, rfl⟩
    obtain ⟨ys, hys⟩ : ∃ ys, rs.map (transW (parse nW ws 0).1 L) = ys := ⟨_, rfl⟩
    have hyl : ys.length ≤ 1000 := by rw [← hys, List.length_map, hR.len]; omega
    simp only [hxs, hys] at C1 C2 hdl
    have hxl : xs.length ≤ 1000 := by have := hW.len; omega
    clear hz h1 h2 h3 h4 hgl hG hGW hw0 hvg hvr hOK hsum hdl hL hxs hys hB0
    go_enter Try.func7, Try.ntmps7
    go_wp2_with fail
    refine C1.out.mono ?_
    rintro e w1 ⟨v, rfl, hb1, hAr1⟩
    obtain ⟨X1, m1, e1, X2, m2, e2, rfl, k1, k2⟩ := hAr1
    have bA1 := (BA.out.below_ hb1).alloc (.cells #[.slice X1 m1 e1, .slice X2 m2 e2] 55)
    have hB1 := HB0.out.trans (hb1.mono HB0.out.size)
    have hB1' := hB1.alloc hB1.size (.cells #[.slice X1 m1 e1, .slice X2 m2 e2] 55)
    have bV1 := Blk.new w1 55 #[.slice X1 m1 e1, .slice X2 m2 e2]
    have hAr1 : ArenaRd w (w1.alloc (.cells #[.slice X1 m1 e1, .slice X2 m2 e2] 55)) (.agg #[.slice X1 m1 e1, .slice X2 m2 e2]) xs ys := ⟨_, _, _, _, _, _, rfl, (k1.below ((Below.refl _ w1).alloc (Nat.le_refl _) _)).more (fun g _ h => by simp at h; omega), (k2.below ((Below.refl _ w1).alloc (Nat.le_refl _) _)).more (fun g _ h => by simp at h; omega)⟩
    obtain ⟨a1, a2, a3⟩ := bA1.rules
    have HB1 := hide hB1'
    have BA1 := hide bA1
    have BV1 := hide bV1
    have HAr1 := hide hAr1
    clear hb1 hB1 hB1' bA1 bV1 k1 k2 hAr1 HB0 BA C1
    go_wp2_with fail
    refine (C4.out _ HB1.out).mono ?_
    rintro e w2 ⟨rfl, hb2⟩
    have hB2 := HB1.out.trans (hb2.mono HB1.out.size)
    have bA2 := BA1.out.below_ hb2
    have bV2 := BV1.out.below_ hb2
    have hAr2 : ArenaRd w w2 (.agg #[.slice X1 m1 e1, .slice X2 m2 e2]) xs ys := by
      obtain ⟨_, _, _, _, _, _, h, p1, p2⟩ := HAr1.out
      exact ⟨_, _, _, _, _, _, h, p1.below hb2, p2.below hb2⟩
    clear a1 a2 a3
    have u5 : w2.cell? ⟨w.heap.size, 0, none⟩ = some (.slice AW nW cW) := by rw [bA2.cell]; rfl
    have u6 : w2.cell? ⟨w.heap.size, 1, none⟩ = some (.slice AR nR cR) := by rw [bA2.cell]; rfl
    have v5 : w2.cell? ⟨w1.heap.size, 0, none⟩ = some (.slice X1 m1 e1) := by rw [bV2.cell]; rfl
    have v6 : w2.cell? ⟨w1.heap.size, 1, none⟩ = some (.slice X2 m2 e2) := by rw [bV2.cell]; rfl
    have HB2 := hide hB2
    have HAr2 := hide hAr2
    have BV2 := hide bV2
    clear hb2 hB2 bA2 bV2 hAr2 HB1 BA1 BV1 HAr1 C4
    go_wp2_with fail
    go_region_law (first
      | (try go_simp
         go_at_call 33
         refine (C2.out w2.drew HB2.out.drew).mono ?_
         rintro e w3 ⟨va, rfl, hb3, hAr3⟩
         have hB3 := HB2.out.drew.trans (hb3.mono HB2.out.size)
         have bV3 := BV2.out.drew.below_ hb3
         (have d5 : w3.cell? ⟨w1.heap.size, 0, none⟩ = some (.slice X1 m1 e1) := by rw [bV3.cell]; rfl)
         (have d6 : w3.cell? ⟨w1.heap.size, 1, none⟩ = some (.slice X2 m2 e2) := by rw [bV3.cell]; rfl)
         (have hAr3' : ArenaRd w w3 (.agg #[.slice X1 m1 e1, .slice X2 m2 e2]) xs ys := by
            obtain ⟨_, _, _, _, _, _, h, p1, p2⟩ := HAr2.out
            exact ⟨_, _, _, _, _, _, h, (p1.below (Below.refl _ w2).drew).below hb3, (p2.below (Below.refl _ w2).drew).below hb3⟩))
      | (try go_simp
         go_at_call 28
         refine (arenas_any w3 w w2.drew _ _ xs ys hxl hyl hAr3' hAr3).mono ?_
         rintro e w4 ⟨rfl, hb4⟩
         have hB4 := hB3.trans (hb4.mono hB3.size)))
    all_goals
      go_wp2_with fail
      go_ret
      exact ⟨rfl, hB4⟩
  · have C1 := hide (copy_bad _ AW AR nW cW nR cR ws rs (hW.below hB0) (hR.below hB0) hz)
    obtain ⟨x, hx⟩ : ∃ x, acheck nW nR ws rs = x := ⟨_, rfl⟩
    rw [hx] at C1 hz
    simp only [hx] at C4
    have y1 : (x != 0) = true := by rw [bne_iff_ne]; exact hz
    clear hz hx hB0
    go_enter Try.func7, Try.ntmps7
    go_wp2_with fail
    refine C1.out.mono ?_
    rintro e w1 ⟨rfl, hb1⟩
    have bA1 := (BA.out.below_ hb1).alloc (.cells #[.slice none 0 0, .slice none 0 0] 55)
    have hB1 := HB0.out.trans (hb1.mono HB0.out.size)
    have hB1' := hB1.alloc hB1.size (.cells #[.slice none 0 0, .slice none 0 0] 55)
    have bV1 := Blk.new w1 55 #[.slice none 0 0, .slice none 0 0]
    obtain ⟨a1, a2, a3⟩ := bA1.rules
    have HB1 := hide hB1'
    have BV1 := hide bV1
    clear hb1 hB1 hB1' bA1 bV1 HB0 BA C1
    go_wp2_with fail
    refine (C4.out _ HB1.out).mono ?_
    rintro e w2 ⟨rfl, hb2⟩
    have hB2 := HB1.out.trans (hb2.mono HB1.out.size)
    have bV2 := BV1.out.below_ hb2
    clear a1 a2 a3
    obtain ⟨v1, v2, v3⟩ := bV2.rules
    have HB2 := hide hB2
    clear hb2 hB2 bV2 HB1 BV1 C4
    go_wp2_with fail
    refine (arenas_any w2 w2 w2 _ _ [] [] (by simp) (by simp) (arenas_nil w2) (arenas_nil w2)).mono ?_
    rintro e w3 ⟨rfl, hb3⟩
    have hB3 := HB2.out.trans (hb3.mono HB2.out.size)
    have HB3 := hide hB3
    clear hB3 hb3 v1 v2 v3
    go_wp2_with fail
    go_ret
    exact ⟨rfl, HB3.out⟩
end Go.Proofs.Ytpbafmdebflbpaa
