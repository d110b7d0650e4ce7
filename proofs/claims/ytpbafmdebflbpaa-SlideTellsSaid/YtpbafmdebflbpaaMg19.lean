/- The law ArenaLays: the walk. move: the reference's Move; the law MoveTells: the walk. slide: the reference's Slide. -/
import Derived.Test.YtpbafmdebflbpaaMg18
import Derived.Deep.RegionHeld3
import Derived.Test.YtpbafmdebflbpaaMg17
import Derived.Test.YtpbafmdebflbpaaMg16
namespace Go.Proofs.Ytpbafmdebflbpaa
open Go.RowKit

theorem gcheck_zero {nO nR : Nat} {obs : List Ob} {roots : List Val} (h : gcheck nO nR obs roots = 0) :
    nO ≤ 24 ∧ nR ≤ 8 ∧ (∀ o ∈ obs, o.n ≤ 4) ∧ ∀ v ∈ allVals obs roots, v.1 = true → 0 ≤ v.2 ∧ v.2 < nO := by
  unfold gcheck at h
  split at h
  · omega
  rename_i h1
  split at h
  · omega
  rename_i h2
  refine ⟨by omega, by omega, fun o ho => ?_, fun v hv hv1 => ?_⟩
  · have h3 : obs.any large = false := by
      cases h4 : obs.any large with
      | false => rfl
      | true => exact absurd (Or.inr (Or.inr h4)) h1
    have h5 := List.any_eq_false.1 h3 o ho
    unfold large at h5
    simp at h5
    omega
  · have h3 : (allVals obs roots).any (badArg nO) = false := by
      cases h4 : (allVals obs roots).any (badArg nO) with
      | false => rfl
      | true => exact absurd h4 h2
    have h5 := List.any_eq_false.1 h3 v hv
    unfold badArg at h5
    rw [hv1] at h5
    simp at h5
    omega

set_option maxHeartbeats 800000 in
theorem words_same (w : World) (D D' : Nat → Prop) (A A' : Option Addr) (n c c' : Nat) (xs : List Int) (hn : n ≤ 9223372036854775807)
    (h : Rd w D 1 A n (u64s xs)) (h' : Rd w D' 1 A' n (u64s xs)) :
    Calls Try.prog 62 #[.slice A n c, .slice A' n c'] w fun e w' => e = .returned (.bool true) ∧ Below w.heap.size w w' := by
  have HL := hide (show xs.length = n by have := h.1; simpa [u64s] using this)
  go_enter Try.func62, Try.ntmps62
  go_wp2_with fail
  go_loopw [5] (fun i wr => ∃ k : Nat, k ≤ n ∧ i = .int .i64 k ∧ Below w.heap.size w wr) (fun i _ => n - (intOf i).toNat)
  case atStart => exact ⟨0, by omega, rfl, Below.refl _ _⟩
  case round =>
    obtain ⟨k, hk, rfl, hB⟩ := hrel
    by_cases hlt : k < n
    · have hkl : k < xs.length := by rw [HL.out]; exact hlt
      obtain ⟨ad, hA, _, had, hc⟩ := (h.below hB).at_ hlt
      obtain ⟨ad', hA', _, had', hc'⟩ := (h'.below hB).at_ hlt
      have e0 := hc (.int .u64 xs[k]) (by simp [u64s, List.getElem?_eq_getElem hkl])
      have e1 := hc' (.int .u64 xs[k]) (by simp [u64s, List.getElem?_eq_getElem hkl])
      obtain ⟨x, hx⟩ : ∃ x, xs[k] = x := ⟨_, rfl⟩
      rw [hx] at e0 e1
      subst hA hA'
      clear hc hc' hx
      go_wp2_with fail
      go_quiet (fail)
      go_wp2_with fail
      go_roundw
      case rel => exact ⟨k + 1, by omega, by go_num, below_drewN hB _⟩
      case measure => simp [intOf]; omega
    · go_wp2_with fail
      go_ret
      exact ⟨rfl, hB⟩

theorem arenas_any (w w1 w2 : World) (v v' : Value) (a b : List Int) (ha : a.length ≤ 1000) (hb : b.length ≤ 1000) (h : ArenaRd w1 w v a b) (h' : ArenaRd w2 w v' a b) :
    Calls Try.prog 28 #[v, v'] w fun e w' => e = .returned (.bool true) ∧ Below w.heap.size w w' := by
  obtain ⟨A1, n1, c1, A2, n2, c2, rfl, f1, f2⟩ := h
  obtain ⟨B1, m1, d1, B2, m2, d2, rfl, g1, g2⟩ := h'
  have l1 : a.length = n1 := by have := f1.1; simpa [u64s] using this
  have l2 : b.length = n2 := by have := f2.1; simpa [u64s] using this
  have e1 : a.length = m1 := by have := g1.1; simpa [u64s] using this
  have e2 : b.length = m2 := by have := g2.1; simpa [u64s] using this
  subst l1 l2 e1 e2
  have hB0 : Below w.heap.size w ((w.alloc (.cells #[.slice A1 a.length c1, .slice A2 b.length c2] 55)).alloc (.cells #[.slice B1 a.length d1, .slice B2 b.length d2] 55)) := ((Below.refl _ w).alloc (Nat.le_refl _) _).alloc (by simp) _
  have C1 := hide (words_same _ _ _ A1 B1 a.length c1 d1 a (by omega) (f1.below hB0) (g1.below hB0))
  have HB0 := hide hB0
  have b1 := (Blk.new w 55 #[.slice A1 a.length c1, .slice A2 b.length c2]).alloc (.cells #[.slice B1 a.length d1, .slice B2 b.length d2] 55)
  have b2 := Blk.new (w.alloc (.cells #[.slice A1 a.length c1, .slice A2 b.length c2] 55)) 55 #[.slice B1 a.length d1, .slice B2 b.length d2]
  rw [World.size_alloc] at b2
  have HB1 := hide b1
  have HB2 := hide b2
  clear b1 b2 hB0 f1 g1
  go_enter Try.func28, Try.ntmps28
  go_wp2_with fail
  refine C1.out.mono ?_
  rintro e w3 ⟨rfl, hB3⟩
  obtain ⟨i1, i2, i3⟩ := (HB1.out.below_ hB3).rules
  obtain ⟨j1, j2, j3⟩ := (HB2.out.below_ hB3).rules
  have hz := hB3.size
  simp at hz
  have hB4 := HB0.out.trans (hB3.mono (by simp; omega))
  go_wp2_with fail
  refine (words_same _ _ _ A2 B2 b.length c2 d2 b (by omega) (f2.below hB4) (g2.below hB4)).mono ?_
  rintro e w4 ⟨rfl, hB5⟩
  go_wp2_with fail
  go_ret
  exact ⟨rfl, hB4.trans (hB5.mono (by omega))⟩

theorem ArenaRd.below {w0 w w' : World} {v : Value} {a b : List Int} (h : ArenaRd w0 w v a b) (hb : Below w.heap.size w w') : ArenaRd w0 w' v a b := by
  obtain ⟨A1, n1, c1, A2, n2, c2, rfl, h1, h2⟩ := h
  exact ⟨_, _, _, _, _, _, rfl, h1.below hb, h2.below hb⟩
theorem ArenaRd.nil (w0 w : World) : ArenaRd w0 w (.agg #[.slice none 0 0, .slice none 0 0]) [] [] := ⟨none, 0, 0, none, 0, 0, rfl, Rd.nil, Rd.nil⟩

set_option maxRecDepth 100000 in
set_option maxHeartbeats 4000000 in
theorem arenaLays_walk (w : World) (AO AR : Option Addr) (nO cO nR cR : Nat) (obs : List Ob) (roots : List Val) (hO : ObsRd w (fun _ => True) AO nO obs) (hR : Rd w (fun _ => True) 2 AR nR (vals roots)) :
    Calls Try.prog 6 #[.agg #[.slice AO nO cO, .slice AR nR cR]] w fun e w' => e = .returned (.bool true) ∧ Below w.heap.size w w' := by
  have hB0 : Below w.heap.size w (w.alloc (.cells #[.slice AO nO cO, .slice AR nR cR] 52)) := (Below.refl _ w).alloc (Nat.le_refl _) _
  have bG := Blk.new w 52 #[.slice AO nO cO, .slice AR nR cR]
  by_cases hbad : gcheck nO nR obs roots = 0
  · obtain ⟨h1, h2, hfl, hv⟩ := gcheck_zero hbad
    have hvO : ∀ o ∈ obs, ∀ v ∈ o.fields, v.1 = true → 0 ≤ v.2 ∧ v.2 < nO := fun o ho v hv1 => hv v (by unfold allVals; exact List.mem_append.2 (.inr (List.mem_flatMap.2 ⟨o, ho, hv1⟩)))
    have hvR : ∀ v ∈ roots, v.1 = true → 0 ≤ v.2 ∧ v.2 < nO := fun v hv1 => hv v (by unfold allVals; exact List.mem_append.2 (.inl hv1))
    have c1 := lay_ok _ AO AR nO cO nR cR obs roots hbad (hO.below hB0) (hR.below hB0) h1 h2 hfl hvO hvR
    have c2 := fun w' (hb : Below w.heap.size w w') => refCheck_any w' AO AR nO cO nR cR obs roots (hO.below hb) (hR.below hb)
    have c3 := fun w' (hb : Below w.heap.size w w') => plain_any w' AO AR nO cO nR cR obs (hO.below hb) h1
    have c4 := fun w' (hb : Below w.heap.size w w') AH cH (hH : Rd w' (fun _ => True) 3 AH nO (vheads obs)) => refLay_any w' AO AR AH nO cO nR cR cH obs roots (hO.below hb) (hR.below hb) hH h1 h2 hfl hvO hvR
    rw [hbad] at c2
    have lw : (wordsL (atL obs nO) obs).length ≤ 1000 := by
      have := wordsL_len (atL obs nO) obs (fun o ho => by rw [hO.flen ho]; exact hfl o ho)
      have := hO.len
      omega
    have lr : (roots.map (packV (atL obs nO))).length ≤ 1000 := by
      have := hR.1
      rw [vals_length] at this
      rw [List.length_map]; omega
    obtain ⟨ws, hws⟩ : ∃ ws, wordsL (atL obs nO) obs = ws := ⟨_, rfl⟩
    obtain ⟨rs, hrs⟩ : ∃ rs, roots.map (packV (atL obs nO)) = rs := ⟨_, rfl⟩
    rw [hws] at lw
    rw [hrs] at lr
    rw [hws, hrs] at c1
    simp only [hws, hrs] at c4
    have C1 := hide c1
    have C2 := hide c2
    have C3 := hide c3
    have C4 := hide c4
    have HB0 := hide hB0
    have BG := hide bG
    have LW := hide lw
    have LR := hide lr
    clear c1 c2 c3 c4 hws hrs hbad h1 h2 hfl hv hvO hvR hO hR hB0 bG lw lr
    go_enter Try.func6, Try.ntmps6
    go_wp2_with fail
    refine C1.out.mono ?_
    rintro e w1 ⟨v, rfl, hb1, hA1⟩
    obtain ⟨A1, n1, c1, A2, n2, c2, rfl, f1, f2⟩ := hA1
    have bG1 := BG.out.below_ hb1
    have hB1 := HB0.out.trans (hb1.mono (by simp))
    obtain ⟨g1, g2, g3⟩ := bG1.rules
    have hz1 := hB1.size
    go_wp2_with fail
    refine (C2.out _ (hB1.alloc hz1 _)).mono ?_
    rintro e w2 ⟨rfl, hb2⟩
    have hz2 := hb2.size
    simp at hz2
    have hB2 := (hB1.alloc hz1 (.cells #[.slice A1 n1 c1, .slice A2 n2 c2] 55)).trans (hb2.mono (by simp; omega))
    have bG2 := (bG1.alloc (.cells #[.slice A1 n1 c1, .slice A2 n2 c2] 55)).below_ hb2
    have bA2 := (Blk.new w1 55 #[.slice A1 n1 c1, .slice A2 n2 c2]).below_ hb2
    have hA2 : ArenaRd (w.alloc (.cells #[.slice AO nO cO, .slice AR nR cR] 52)) w2 (.agg #[.slice A1 n1 c1, .slice A2 n2 c2]) ws rs := ArenaRd.below ⟨A1, n1, c1, A2, n2, c2, rfl, f1, f2⟩ (((Below.refl _ w1).alloc (Nat.le_refl _) _).trans (hb2.mono (by simp)))
    have s0 : w2.cell? ⟨w.heap.size, 0, none⟩ = some (.slice AO nO cO) := by rw [bG2.cell]; rfl
    have s1 : w2.cell? ⟨w.heap.size, 1, none⟩ = some (.slice AR nR cR) := by rw [bG2.cell]; rfl
    have s2 : w2.cell? ⟨w1.heap.size, 0, none⟩ = some (.slice A1 n1 c1) := by rw [bA2.cell]; rfl
    have s3 : w2.cell? ⟨w1.heap.size, 1, none⟩ = some (.slice A2 n2 c2) := by rw [bA2.cell]; rfl
    have hzw := hB2.size
    clear g1 g2 g3 f1 f2 hb1 hb2 C1 C2
    go_wp2_with fail
    go_region_held3 (fun w' => w'.cell? ⟨w.heap.size, 0, none⟩ = some (.slice AO nO cO) ∧ w'.cell? ⟨w.heap.size, 1, none⟩ = some (.slice AR nR cR) ∧ w'.cell? ⟨w1.heap.size, 0, none⟩ = some (.slice A1 n1 c1) ∧ w'.cell? ⟨w1.heap.size, 1, none⟩ = some (.slice A2 n2 c2))
      (first | (refine ⟨?_, ?_, ?_, ?_⟩ <;> assumption) | go_keep) (first
      | (go_at_call 30
         refine (C3.out _ (by first | exact hB2.drew | exact hB2)).mono ?_
         rintro e w4 ⟨AH, cH, rfl, hSP⟩
         have hB4 := hB2.drew.trans (hSP.below_.mono hzw)
         have hz4 := hB4.size
         have bG4 := bG2.drew.below_ hSP.below_
         have bA4 := bA2.drew.below_ hSP.below_
         (have hA4 : ArenaRd (w.alloc (.cells #[.slice AO nO cO, .slice AR nR cR] 52)) w4 (.agg #[.slice A1 n1 c1, .slice A2 n2 c2]) ws rs := hA2.below ((Below.refl _ w2).drew.trans hSP.below_))
         (have t0 : w4.cell? ⟨w.heap.size, 0, none⟩ = some (.slice AO nO cO) := by rw [bG4.cell]; rfl)
         (have t1 : w4.cell? ⟨w.heap.size, 1, none⟩ = some (.slice AR nR cR) := by rw [bG4.cell]; rfl)
         (have t2 : w4.cell? ⟨w1.heap.size, 0, none⟩ = some (.slice A1 n1 c1) := by rw [bA4.cell]; rfl)
         (have t3 : w4.cell? ⟨w1.heap.size, 1, none⟩ = some (.slice A2 n2 c2) := by rw [bA4.cell]; rfl))
      | (go_at_call 29
         refine (C4.out _ hB4 AH cH (hSP.rd_ 0 rfl)).mono ?_
         rintro e w5 ⟨v5, rfl, hb5, hA5⟩
         have hB5 := hB4.trans (hb5.mono hz4)
         have hz5 := hB5.size
         have bG5 := bG4.below_ hb5
         have bA5 := bA4.below_ hb5
         (have hA45 : ArenaRd (w.alloc (.cells #[.slice AO nO cO, .slice AR nR cR] 52)) w5 (.agg #[.slice A1 n1 c1, .slice A2 n2 c2]) ws rs := hA4.below hb5)
         (have u0 : w5.cell? ⟨w.heap.size, 0, none⟩ = some (.slice AO nO cO) := by rw [bG5.cell]; rfl)
         (have u1 : w5.cell? ⟨w.heap.size, 1, none⟩ = some (.slice AR nR cR) := by rw [bG5.cell]; rfl)
         (have u2 : w5.cell? ⟨w1.heap.size, 0, none⟩ = some (.slice A1 n1 c1) := by rw [bA5.cell]; rfl)
         (have u3 : w5.cell? ⟨w1.heap.size, 1, none⟩ = some (.slice A2 n2 c2) := by rw [bA5.cell]; rfl))
      | (go_at_call 28
         refine (arenas_any w5 _ _ _ _ ws rs LW.out LR.out hA45 hA5).mono ?_
         rintro e w6 ⟨rfl, hb6⟩
         have hB6 := hB5.trans (hb6.mono hz5)
         have bG6 := bG5.below_ hb6
         have bA6 := bA5.below_ hb6
         (have x0 : w6.cell? ⟨w.heap.size, 0, none⟩ = some (.slice AO nO cO) := by rw [bG6.cell]; rfl)
         (have x1 : w6.cell? ⟨w.heap.size, 1, none⟩ = some (.slice AR nR cR) := by rw [bG6.cell]; rfl)
         (have x2 : w6.cell? ⟨w1.heap.size, 0, none⟩ = some (.slice A1 n1 c1) := by rw [bA6.cell]; rfl)
         (have x3 : w6.cell? ⟨w1.heap.size, 1, none⟩ = some (.slice A2 n2 c2) := by rw [bA6.cell]; rfl)))
    all_goals
      go_wp2_with fail
      go_ret
      exact ⟨rfl, hB6⟩
  · obtain ⟨x, hx⟩ : ∃ x, gcheck nO nR obs roots = x := ⟨_, rfl⟩
    have c1 := lay_bad _ AO AR nO cO nR cR obs roots x hx (by rw [← hx]; exact hbad) (hO.below hB0) (hR.below hB0)
    have c2 := fun w' (hb : Below w.heap.size w w') => refCheck_any w' AO AR nO cO nR cR obs roots (hO.below hb) (hR.below hb)
    rw [hx] at c2 hbad
    have y1 : (x != 0) = true := by rw [bne_iff_ne]; exact hbad
    have C1 := hide c1
    have C2 := hide c2
    have HB0 := hide hB0
    have BG := hide bG
    clear c1 c2 hx hbad hO hR hB0 bG
    go_enter Try.func6, Try.ntmps6
    go_wp2_with fail
    refine C1.out.mono ?_
    rintro e w1 ⟨rfl, hb1⟩
    have bG1 := BG.out.below_ hb1
    have hB1 := HB0.out.trans (hb1.mono (by simp))
    obtain ⟨g1, g2, g3⟩ := bG1.rules
    have hz1 := hB1.size
    go_wp2_with fail
    refine (C2.out _ (hB1.alloc hz1 _)).mono ?_
    rintro e w2 ⟨rfl, hb2⟩
    have hz2 := hb2.size
    simp at hz2
    have hB2 := (hB1.alloc hz1 (.cells #[.slice none 0 0, .slice none 0 0] 55)).trans (hb2.mono (by simp; omega))
    obtain ⟨a1, a2, a3⟩ := ((Blk.new w1 55 #[.slice none 0 0, .slice none 0 0]).below_ hb2).rules
    clear g1 g2 g3
    go_wp2_with fail
    refine (arenas_any w2 w2 w2 _ _ [] [] (by simp) (by simp) (ArenaRd.nil _ _) (ArenaRd.nil _ _)).mono ?_
    rintro e w3 ⟨rfl, hb3⟩
    have hz3 := hB2.size
    go_wp2_with fail
    go_ret
    exact ⟨rfl, hB2.trans (hb3.mono (by omega))⟩
end Go.Proofs.Ytpbafmdebflbpaa

namespace Go.Proofs.Ytpbafmdebflbpaa
open Go.RowKit Go.Maps

theorem ValsOk.of_graph {nW : Nat} {ws : List Int} (h : ∀ x ∈ fieldsOf ws (parse nW ws 0).1, GoodW (parse nW ws 0).1 x) : ∀ fs ∈ graphOf ws (parse nW ws 0).1, ValsOk (parse nW ws 0).1.length fs := by
  intro fs hfs
  obtain ⟨p, hp, rfl⟩ := List.mem_map.1 hfs
  exact good_vals fun x hx => h x (List.mem_flatMap.2 ⟨p, hp, hx⟩)
theorem place_lt {L : List Int} {x : Int} (h : x ∈ L) : placeN L x < L.length := by unfold placeN; rw [if_pos h]; exact List.idxOf_lt_length_of_mem h

set_option maxRecDepth 100000 in
set_option maxHeartbeats 16000000 in
theorem refMove_any (w : World) (AW AR : Option Addr) (nW cW nR cR : Nat) (ws rs : List Int) (hW : WsIn w AW nW cW ws) (hR : WsIn w AR nR cR rs) (hz : acheck nW nR ws rs = 0) :
    Calls Try.prog 33 #[.agg #[.slice AW nW cW, .slice AR nR cR]] w fun e w' => ∃ v, e = .returned v ∧ Below w.heap.size w w' ∧
      ArenaRd w w' v ((order (graphOf ws (parse nW ws 0).1) (rs.map (turnW (ixOf (parse nW ws 0).1)))).flatMap (doneO ws (parse nW ws 0).1 (order (graphOf ws (parse nW ws 0).1) (rs.map (turnW (ixOf (parse nW ws 0).1))))))
        (rs.map (transW (parse nW ws 0).1 (order (graphOf ws (parse nW ws 0).1) (rs.map (turnW (ixOf (parse nW ws 0).1)))))) := by
  obtain ⟨h1, h2, h3, h4⟩ := acheck_zero hz
  have hw0 : ∀ x ∈ ws, 0 ≤ x := fun x hx => (hW.wf x hx).1
  have hG := good_of_check h4
  have hGW : ∀ x ∈ rs ++ fieldsOf ws (parse nW ws 0).1, GoodW (parse nW ws 0).1 x := fun x hx => by
    have hb : 0 ≤ x ∧ x ≤ 18446744073709551615 := by
      rcases List.mem_append.1 hx with h | h
      · exact hR.wf x h
      · obtain ⟨p, _, hp⟩ := List.mem_flatMap.1 h
        exact hW.wf x (List.mem_of_mem_drop (List.mem_of_mem_take hp))
    exact ⟨hb.1, hb.2, hG.e x hx, hG.ix x hx⟩
  have hgl : (graphOf ws (parse nW ws 0).1).length = (parse nW ws 0).1.length := by unfold graphOf; rw [List.length_map]
  have hvg : ∀ fs ∈ graphOf ws (parse nW ws 0).1, ValsOk (graphOf ws (parse nW ws 0).1).length fs := by rw [hgl]; exact ValsOk.of_graph fun x hx => hGW x (List.mem_append_right _ hx)
  have hvr : ValsOk (graphOf ws (parse nW ws 0).1).length (rs.map (turnW (ixOf (parse nW ws 0).1))) := by rw [hgl]; exact good_vals fun x hx => hGW x (List.mem_append_left _ hx)
  have hOK := order_ok hvg hvr
  obtain ⟨hcl, hcr⟩ := order_closed hvg hvr
  rw [hgl] at hOK
  have hfl : ∀ fs ∈ graphOf ws (parse nW ws 0).1, fs.length ≤ 4 := fun fs hfs => by
    obtain ⟨p, hp, rfl⟩ := List.mem_map.1 hfs
    have h5 := parse_mem nW ws 0 p hw0 hp
    have h6 := h5.2.1.1
    rw [h5.2.2.1] at h6
    unfold fieldsAt
    rw [List.length_map, List.length_take]
    omega
  have hpl : (parse nW ws 0).1.length ≤ 256 := by
    have h6 := parse_sum nW ws 0 (by omega) hw0
    have h7 : ∀ m : List (Nat × Nat), m.length ≤ (m.map fun p => 1 + p.2).sum := fun m => by
      induction m with
      | nil => simp
      | cons a m ih => simp only [List.map_cons, List.sum_cons, List.length_cons]; omega
    have h8 := h7 (parse nW ws 0).1
    have h9 := hW.len
    omega
  have hwd := move_words (nW := nW) (ws := ws) 1 hw0 (by rw [hW.len]; exact h1) (fun x hx => hGW x (List.mem_append_right _ hx)) hOK hcl
  have hrd : ((rs.map (turnW (ixOf (parse nW ws 0).1))).map (turnL (order (graphOf ws (parse nW ws 0).1) (rs.map (turnW (ixOf (parse nW ws 0).1)))))).map (packV (atF (renumF (graphOf ws (parse nW ws 0).1) (order (graphOf ws (parse nW ws 0).1) (rs.map (turnW (ixOf (parse nW ws 0).1))))))) = rs.map (transW (parse nW ws 0).1 (order (graphOf ws (parse nW ws 0).1) (rs.map (turnW (ixOf (parse nW ws 0).1))))) := by
    rw [List.map_map, List.map_map]
    refine List.map_congr_left fun x hx => ?_
    refine pack_trans _ hw0 (by rw [hW.len]; exact h1) (hGW x (List.mem_append_left _ hx)) hOK (renum_at hw0 hOK.rng) (fun hr => ?_)
    have h5 := hcr (turnW (ixOf (parse nW ws 0).1) x) (List.mem_map.2 ⟨x, hx, rfl⟩) hr
    have h6 : (turnW (ixOf (parse nW ws 0).1) x).2 = (ixOf (parse nW ws 0).1 (unA x) : Int) := by unfold turnW; rw [hr]; rfl
    rw [h6] at h5
    exact h5
  have hhd : ∀ h ∈ headsAt (headsL ws (parse nW ws 0).1) (order (graphOf ws (parse nW ws 0).1) (rs.map (turnW (ixOf (parse nW ws 0).1)))) 1, HdOk h := fun h hh => by
    obtain ⟨i, hi, rfl⟩ := List.mem_map.1 hh
    refine older_ok (by omega) ?_
    obtain ⟨i0, i1⟩ := hOK.rng i hi
    have hil : i.toNat < (headsL ws (parse nW ws 0).1).length := by unfold headsL; rw [List.length_map]; omega
    rw [List.getD_eq_getElem?_getD, List.getElem?_eq_getElem hil]
    exact headsL_ok hw0 _ (List.getElem_mem hil)
  have C1 := fun w' (hb : Below w.heap.size w w') => refRead_any w' AW AR nW cW nR cR ws rs (hW.below hb) (hR.below hb) hz
  have C4 := fun w' Al nl cl (hb : Below w.heap.size w w') l hl hnl hlr => headsOf_any w' AW AR Al nW cW nR cR nl cl 1 ws l (hW.below hb) h1 h3 hl hnl (by omega) hlr
  have hrl : (rs.map (turnW (ixOf (parse nW ws 0).1))).length ≤ 8 := by rw [List.length_map, hR.len]; exact h2
  rw [← hwd.trans (show _ = (order (graphOf ws (parse nW ws 0).1) (rs.map (turnW (ixOf (parse nW ws 0).1)))).flatMap (doneO ws (parse nW ws 0).1 (order (graphOf ws (parse nW ws 0).1) (rs.map (turnW (ixOf (parse nW ws 0).1))))) from rfl), ← hrd]
  rw [← hgl] at hOK hpl
  have hnum : (parse nW ws 0).1.length = (graphOf ws (parse nW ws 0).1).length := hgl.symm
  simp only [hnum] at C4
  obtain ⟨hs, hhs⟩ : ∃ hs, headsL ws (parse nW ws 0).1 = hs := ⟨_, rfl⟩
  simp only [hhs] at C4 hhd ⊢
  obtain ⟨vs, hvs⟩ : ∃ vs, rs.map (turnW (ixOf (parse nW ws 0).1)) = vs := ⟨_, rfl⟩
  simp only [hvs] at C1 hvr hOK hcl hcr hhd hrl ⊢
  obtain ⟨gs, hgs⟩ : ∃ gs, graphOf ws (parse nW ws 0).1 = gs := ⟨_, rfl⟩
  simp only [hgs] at C1 C4 hvg hvr hOK hcl hcr hfl hpl hhd ⊢
  obtain ⟨L, hL⟩ : ∃ L, order gs vs = L := ⟨_, rfl⟩
  simp only [hL] at hOK hcl hcr hhd ⊢
  have C2 := fun w' v (h : GraphRd w' (fun _ => True) v gs vs) => order_any w' v gs vs h (by omega) (by omega) (fun fs hfs => by have := hfl fs hfs; omega) hvr hvg
  simp only [hL] at C2
  have hLl := hOK.len
  have C3 := fun w' v Al nl cl (h : GraphRd w' (fun _ => True) v gs vs) (hl : Rd w' (fun _ => True) 1 Al nl (ints L)) hnl => renumber_any w' v Al nl cl gs vs L h hl hOK.rng (by omega) hnl (by omega) (fun fs hfs => by have := hfl fs hfs; omega)
  have hrn : (renumF gs L).length = L.length := by unfold renumF; rw [List.length_map]
  have C5 := fun w' v AH nH cH (h : GraphRd w' (fun _ => True) v (renumF gs L) (vs.map (turnL L))) (hH : Rd w' (fun _ => True) 3 AH nH (hcells (headsAt hs L 1))) =>
    refLayG_any w' v AH nH cH (renumF gs L) (vs.map (turnL L)) (headsAt hs L 1) h (by rw [hrn]; unfold headsAt; rw [List.length_map]) hhd hH (by omega) (by rw [List.length_map]; exact hrl) (fun fs hfs => by
      obtain ⟨x, hx, rfl⟩ := List.mem_map.1 hfs
      rw [List.length_map]
      obtain ⟨x0, x1⟩ := hOK.rng x hx
      unfold fieldsI
      rw [List.getD_eq_getElem?_getD, List.getElem?_eq_getElem (by omega)]
      exact hfl _ (List.getElem_mem _)) (fun fs hfs v hv h1 => by
      obtain ⟨x, hx, rfl⟩ := List.mem_map.1 hfs
      obtain ⟨u, hu, rfl⟩ := List.mem_map.1 hv
      rw [hrn]
      unfold turnL at h1 ⊢
      by_cases h9 : u.1 = true
      · rw [if_pos h9]
        have := place_lt (hcl x hx u hu h9)
        dsimp only
        omega
      · rw [if_neg h9] at h1; exact absurd h1 h9) (fun v hv h1 => by
      obtain ⟨u, hu, rfl⟩ := List.mem_map.1 hv
      rw [hrn]
      unfold turnL at h1 ⊢
      by_cases h9 : u.1 = true
      · rw [if_pos h9]
        have := place_lt (hcr u hu h9)
        dsimp only
        omega
      · rw [if_neg h9] at h1; exact absurd h1 h9)
  have HC1 := hide C1
  have HC2 := hide C2
  have HC3 := hide C3
  have HC4 := hide C4
  have HC5 := hide C5
  have HLR := hide hOK.rng
  have hL256 : L.length ≤ 256 := by omega
  have hB0 : Below w.heap.size w ((w.alloc (.cells #[.slice AW nW cW, .slice AR nR cR] 55)).alloc (.cells #[.slice none 0 0, .slice none 0 0] 55)) := ((Below.refl _ w).alloc (Nat.le_refl _) _).alloc (by simp) _
  have b1 := (Blk.new w 55 #[.slice AW nW cW, .slice AR nR cR]).alloc (.cells #[.slice none 0 0, .slice none 0 0] 55)
  have b2 := Blk.new (w.alloc (.cells #[.slice AW nW cW, .slice AR nR cR] 55)) 55 #[.slice none 0 0, .slice none 0 0]
  rw [World.size_alloc] at b2
  have HB := hide hB0
  have HA := hide b1
  have HR := hide b2
  clear C1 C2 C3 C4 C5 hOK hwd hrd hnum hhs hvs hgs hL hG hGW hgl hvg hvr hcl hcr hfl hpl hhd hrl hLl hrn hz h1 h2 h3 h4 hw0 hB0 b1 b2
  go_enter Try.func33, Try.ntmps33
  go_wp2_with fail
  refine (HC1.out _ HB.out).mono ?_
  rintro e w1 ⟨v, rfl, hb1, hG1⟩
  obtain ⟨AO, nO, cO, Ag, ng, cg, obs, rfl, g1, g2, g3⟩ := hG1.ex
  have hA1 := (HA.out.below_ hb1).alloc (.cells #[.slice AO nO cO, .slice Ag ng cg] 52)
  have hR1 := (HR.out.below_ hb1).alloc (.cells #[.slice AO nO cO, .slice Ag ng cg] 52)
  have hV1 := Blk.new w1 52 #[.slice AO nO cO, .slice Ag ng cg]
  have hB1 := HB.out.trans (hb1.mono HB.out.size)
  have hB1' := hB1.alloc hB1.size (.cells #[.slice AO nO cO, .slice Ag ng cg] 52)
  have hG1' : GraphRd (w1.alloc (.cells #[.slice AO nO cO, .slice Ag ng cg] 52)) (fun _ => True) (.agg #[.slice AO nO cO, .slice Ag ng cg]) gs vs := (GraphRd.more hG1 (fun _ _ _ => trivial)).below ((Below.refl _ w1).alloc (Nat.le_refl _) _)
  have HB1 := hide hB1'
  have HA1 := hide hA1
  have HR1 := hide hR1
  have HV1 := hide hV1
  have HG1 := hide hG1'
  clear hA1 hR1 hV1 hB1 hB1' hG1 hG1' g1 g2 g3 hb1 HB HA HR HC1
  go_wp2_with fail
  refine (HC2.out _ _ HG1.out).mono ?_
  rintro e w2 ⟨Al, nl, cl, rfl, hP⟩
  have hb2 := hP.below_
  have hnl : L.length = nl := by have := (hP.rd_ 0 rfl).1; simpa using this
  have HB2 := hide (HB1.out.trans (hb2.mono HB1.out.size))
  have HA2 := hide (HA1.out.below_ hb2)
  have HR2 := hide (HR1.out.below_ hb2)
  have HV2 := hide (HV1.out.below_ hb2)
  have HG2 := hide (HG1.out.below hb2)
  have HL2 := hide (hP.rd_ 0 rfl)
  obtain ⟨v1, v2, v3⟩ := HV2.out.rules
  obtain ⟨u1, u2, u3⟩ := HA2.out.rules
  have v5 : w2.cell? ⟨w1.heap.size, 0, none⟩ = some (.slice AO nO cO) := by rw [v1]; rfl
  have v6 : w2.cell? ⟨w1.heap.size, 1, none⟩ = some (.slice Ag ng cg) := by rw [v1]; rfl
  have u5 : w2.cell? ⟨w.heap.size, 0, none⟩ = some (.slice AW nW cW) := by rw [u1]; rfl
  have u6 : w2.cell? ⟨w.heap.size, 1, none⟩ = some (.slice AR nR cR) := by rw [u1]; rfl
  clear hb2 hP v1 v2 v3 u1 u2 u3 HB1 HA1 HR1 HV1 HG1 HC2
  go_wp2_with fail
  go_region_law (first
    | (try go_simp
       go_at_call 68
       refine (HC3.out w2.drew _ Al nl cl (HG2.out.below (Below.refl _ w2).drew) (HL2.out.below (Below.refl _ w2).drew) (by omega)).mono ?_
       rintro e w3 ⟨vr, rfl, hb3, hG3⟩
       have hB3 := HB2.out.drew.trans (hb3.mono HB2.out.size)
       have hA3 := HA2.out.drew.below_ hb3
       have hR3 := HR2.out.drew.below_ hb3
       have hL3 := (HL2.out.below (Below.refl _ w2).drew).below hb3
       (have d5 : w3.cell? ⟨w.heap.size, 0, none⟩ = some (.slice AW nW cW) := by rw [hA3.cell]; rfl)
       (have d6 : w3.cell? ⟨w.heap.size, 1, none⟩ = some (.slice AR nR cR) := by rw [hA3.cell]; rfl))
    | (try go_simp
       go_at_call 69
       refine (HC4.out w3 Al nl cl hB3 L hL3 (by omega) HLR.out).mono ?_
       rintro e w4 ⟨AH, cH, rfl, hP4⟩
       have hb4 := hP4.below_
       have hB4 := hB3.trans (hb4.mono hB3.size)
       have hR4 := hR3.below_ hb4
       have hG4 := GraphRd.more (hG3.below hb4) (D' := fun _ => True) (fun _ _ _ => trivial)
       have hH4 := hP4.rd_ 0 rfl)
    | (try go_simp
       go_at_call 29
       refine (HC5.out w4 vr AH nl cH hG4 hH4).mono ?_
       rintro e w5 ⟨va, rfl, hb5, hAr5⟩
       obtain ⟨X1, m1, e1, X2, m2, e2, rfl, k1, k2⟩ := hAr5
       have hB5 := hB4.trans (hb5.mono hB4.size)
       have hR5 := hR4.below_ hb5
       obtain ⟨y1, y2, y3⟩ := hR5.rules))
  all_goals
    go_wp2_with fail
    have hF := (hR5.set_ 0 (.slice X1 m1 e1)).set_ 1 (.slice X2 m2 e2)
    have hB6 := (hB5.setCell (p := ⟨w.heap.size + 1, 0, none⟩) (by simp) (.slice X1 m1 e1)).setCell (p := ⟨w.heap.size + 1, 1, none⟩) (by simp) (.slice X2 m2 e2)
    have hc : Chg (fun g => g = w.heap.size + 1) w5 ((w5.setCell ⟨w.heap.size + 1, 0, none⟩ (.slice X1 m1 e1)).setCell ⟨w.heap.size + 1, 1, none⟩ (.slice X2 m2 e2)) := ((Chg.refl (fun g => g = w.heap.size + 1) w5).setCell (p := ⟨w.heap.size + 1, 0, none⟩) (.inl rfl) _).setCell (p := ⟨w.heap.size + 1, 1, none⟩) (.inl rfl) _
    refine bodyPost_ret (v := .agg #[.slice X1 m1 e1, .slice X2 m2 e2]) (by simp [results, Try.results33, go_sem, y1]) rfl ⟨_, rfl, hB6, ?_⟩
    have hs4 := hB4.size
    have hr4 := hR4.lt
    exact ⟨_, _, _, _, _, _, rfl, (k1.chg hc (fun g h1 h2 => by omega)).more (fun g _ h => by omega), (k2.chg hc (fun g h1 h2 => by omega)).more (fun g _ h => by omega)⟩

theorem arenas_nil (w : World) : ArenaRd w w (.agg #[.slice none 0 0, .slice none 0 0]) [] [] := ⟨_, _, _, _, _, _, rfl, Rd.nil, Rd.nil⟩
set_option maxRecDepth 100000 in
set_option maxHeartbeats 4000000 in
theorem copy_bad (w : World) (AW AR : Option Addr) (nW cW nR cR : Nat) (ws rs : List Int) (hW : WsIn w AW nW cW ws) (hR : WsIn w AR nR cR rs) (hz : acheck nW nR ws rs ≠ 0) :
    Calls Try.prog 31 #[.agg #[.slice AW nW cW, .slice AR nR cR]] w fun e w' => e = .returned (.tuple #[.agg #[.slice none 0 0, .slice none 0 0], .int .i64 (acheck nW nR ws rs)]) ∧ Below w.heap.size w w' := by
  have hS0 := ((Sep.nil No w).blkAt 55 #[.slice AW nW cW, .slice AR nR cR] rfl).blkAt 55 #[.slice none 0 0, .slice none 0 0] (g := w.heap.size + 1) (by simp)
  obtain ⟨a1, a2, a3, a4⟩ := hS0.rules 0 (g := w.heap.size) (t := 55) rfl
  have HS0 := hide hS0
  have C1 := hide (arenaCheck_any _ AW AR nW cW nR cR ws rs (hW.below hS0.below_) (hR.below hS0.below_))
  obtain ⟨x, hx⟩ : ∃ x, acheck nW nR ws rs = x := ⟨_, rfl⟩
  rw [hx] at C1 hz ⊢
  have y1 : (x != 0) = true := by rw [bne_iff_ne]; exact hz
  clear hS0 hx hz
  go_enter Try.func31, Try.ntmps31
  go_wp2_with fail
  refine C1.out.mono ?_
  rintro e w1 ⟨rfl, hb1⟩
  have hS1 := HS0.out.below hb1
  have HS1 := hide hS1
  clear a1 a2 a3 a4
  obtain ⟨q1, q2, q3, q4⟩ := hS1.rules 1 (g := w.heap.size + 1) (t := 55) rfl
  clear hS1
  go_wp2_with fail
  have hF := (HS1.out.set_ 1 (g := w.heap.size + 1) (t := 55) rfl 0 (.slice none 0 0)).set_ 1 (g := w.heap.size + 1) (t := 55) rfl 1 (.slice none 0 0)
  refine bodyPost_ret (v := .tuple #[.agg #[.slice none 0 0, .slice none 0 0], .int .i64 x]) (by simp [results, Try.results31, go_sem, q1]) rfl ⟨rfl, hF.below_⟩

set_option maxRecDepth 100000 in
set_option maxHeartbeats 8000000 in
theorem moveTells_walk (w : World) (AW AR : Option Addr) (nW cW nR cR : Nat) (ws rs : List Int) (hW : WsIn w AW nW cW ws) (hR : WsIn w AR nR cR rs) :
    Calls Try.prog 7 #[.agg #[.slice AW nW cW, .slice AR nR cR]] w fun e w' => e = .returned (.bool true) ∧ Below w.heap.size w w' := by
  have hB0 : Below w.heap.size w (w.alloc (.cells #[.slice AW nW cW, .slice AR nR cR] 55)) := (Below.refl _ w).alloc (Nat.le_refl _) _
  have BA := hide (Blk.new w 55 #[.slice AW nW cW, .slice AR nR cR])
  have HB0 := hide hB0
  have C4 := hide (fun w' (hb : Below w.heap.size w w') => refAcheck_any w' AW AR nW cW nR cR ws rs (hW.below hb) (hR.below hb))
  by_cases hz : acheck nW nR ws rs = 0
  · have C1 := hide (copy_ok _ AW AR nW cW nR cR ws rs (hW.below hB0) (hR.below hB0) hz)
    have C2 := hide (fun w' (hb : Below w.heap.size w w') => refMove_any w' AW AR nW cW nR cR ws rs (hW.below hb) (hR.below hb) hz)
    rw [hz] at C4
    obtain ⟨h1, h2, h3, h4⟩ := acheck_zero hz
    have hgl : (graphOf ws (parse nW ws 0).1).length = (parse nW ws 0).1.length := by unfold graphOf; rw [List.length_map]
    have hG := good_of_check h4
    have hGW : ∀ x ∈ rs ++ fieldsOf ws (parse nW ws 0).1, GoodW (parse nW ws 0).1 x := fun x hx => by
      have hb : 0 ≤ x ∧ x ≤ 18446744073709551615 := by
        rcases List.mem_append.1 hx with h | h
        · exact hR.wf x h
        · obtain ⟨p, _, hp⟩ := List.mem_flatMap.1 h
          exact hW.wf x (List.mem_of_mem_drop (List.mem_of_mem_take hp))
      exact ⟨hb.1, hb.2, hG.e x hx, hG.ix x hx⟩
    have hw0 : ∀ x ∈ ws, 0 ≤ x := fun x hx => (hW.wf x hx).1
    have hvg : ∀ fs ∈ graphOf ws (parse nW ws 0).1, ValsOk (graphOf ws (parse nW ws 0).1).length fs := by rw [hgl]; exact ValsOk.of_graph fun x hx => hGW x (List.mem_append_right _ hx)
    have hvr : ValsOk (graphOf ws (parse nW ws 0).1).length (rs.map (turnW (ixOf (parse nW ws 0).1))) := by rw [hgl]; exact good_vals fun x hx => hGW x (List.mem_append_left _ hx)
    have hOK := order_ok hvg hvr
    rw [hgl] at hOK
    have hsum := sumO_le hw0 hOK
    have hdl := done_len (ws := ws) (pre := (parse nW ws 0).1) (L := order (graphOf ws (parse nW ws 0).1) (rs.map (turnW (ixOf (parse nW ws 0).1)))) (l := order (graphOf ws (parse nW ws 0).1) (rs.map (turnW (ixOf (parse nW ws 0).1)))) (fun i hi => (rawO_len (nW := nW) hw0 (hOK.rng i hi).1 (hOK.rng i hi).2).1)
    obtain ⟨L, hL⟩ : ∃ L, order (graphOf ws (parse nW ws 0).1) (rs.map (turnW (ixOf (parse nW ws 0).1))) = L := ⟨_, rfl⟩
    simp only [hL] at C1 C2 hsum hdl
    obtain ⟨xs, hxs⟩ : ∃ xs, L.flatMap (doneO ws (parse nW ws 0).1 L) = xs := ⟨_, rfl⟩
    obtain ⟨ys, hys⟩ : ∃ ys, rs.map (transW (parse nW ws 0).1 L) = ys := ⟨_, rfl⟩
    have hyl : ys.length ≤ 1000 := by rw [← hys, List.length_map, hR.len]; omega
    simp only [hxs, hys] at C1 C2 hdl
    have hxl : xs.length ≤ 1000 := by have := hW.len; omega
    clear hz h1 h2 h3 h4 hgl hG hGW hw0 hvg hvr hOK hsum hdl hL hxs hys hB0
    go_enter Try.func7, Try.ntmps7
    go_wp2_with fail
    refine C1.out.mono ?_
    rintro e w1 ⟨v, rfl, hb1, hAr1⟩
    obtain ⟨X1, m1, e1, X2, m2, e2, rfl, k1, k2⟩ := hAr1
    have bA1 := (BA.out.below_ hb1).alloc (.cells #[.slice X1 m1 e1, .slice X2 m2 e2] 55)
    have hB1 := HB0.out.trans (hb1.mono HB0.out.size)
    have hB1' := hB1.alloc hB1.size (.cells #[.slice X1 m1 e1, .slice X2 m2 e2] 55)
    have bV1 := Blk.new w1 55 #[.slice X1 m1 e1, .slice X2 m2 e2]
    have hAr1 : ArenaRd w (w1.alloc (.cells #[.slice X1 m1 e1, .slice X2 m2 e2] 55)) (.agg #[.slice X1 m1 e1, .slice X2 m2 e2]) xs ys := ⟨_, _, _, _, _, _, rfl, (k1.below ((Below.refl _ w1).alloc (Nat.le_refl _) _)).more (fun g _ h => by simp at h; omega), (k2.below ((Below.refl _ w1).alloc (Nat.le_refl _) _)).more (fun g _ h => by simp at h; omega)⟩
    obtain ⟨a1, a2, a3⟩ := bA1.rules
    have HB1 := hide hB1'
    have BA1 := hide bA1
    have BV1 := hide bV1
    have HAr1 := hide hAr1
    clear hb1 hB1 hB1' bA1 bV1 k1 k2 hAr1 HB0 BA C1
    go_wp2_with fail
    refine (C4.out _ HB1.out).mono ?_
    rintro e w2 ⟨rfl, hb2⟩
    have hB2 := HB1.out.trans (hb2.mono HB1.out.size)
    have bA2 := BA1.out.below_ hb2
    have bV2 := BV1.out.below_ hb2
    have hAr2 : ArenaRd w w2 (.agg #[.slice X1 m1 e1, .slice X2 m2 e2]) xs ys := by
      obtain ⟨_, _, _, _, _, _, h, p1, p2⟩ := HAr1.out
      exact ⟨_, _, _, _, _, _, h, p1.below hb2, p2.below hb2⟩
    clear a1 a2 a3
    have u5 : w2.cell? ⟨w.heap.size, 0, none⟩ = some (.slice AW nW cW) := by rw [bA2.cell]; rfl
    have u6 : w2.cell? ⟨w.heap.size, 1, none⟩ = some (.slice AR nR cR) := by rw [bA2.cell]; rfl
    have v5 : w2.cell? ⟨w1.heap.size, 0, none⟩ = some (.slice X1 m1 e1) := by rw [bV2.cell]; rfl
    have v6 : w2.cell? ⟨w1.heap.size, 1, none⟩ = some (.slice X2 m2 e2) := by rw [bV2.cell]; rfl
    have HB2 := hide hB2
    have HAr2 := hide hAr2
    have BV2 := hide bV2
    clear hb2 hB2 bA2 bV2 hAr2 HB1 BA1 BV1 HAr1 C4
    go_wp2_with fail
    go_region_law (first
      | (try go_simp
         go_at_call 33
         refine (C2.out w2.drew HB2.out.drew).mono ?_
         rintro e w3 ⟨va, rfl, hb3, hAr3⟩
         have hB3 := HB2.out.drew.trans (hb3.mono HB2.out.size)
         have bV3 := BV2.out.drew.below_ hb3
         (have d5 : w3.cell? ⟨w1.heap.size, 0, none⟩ = some (.slice X1 m1 e1) := by rw [bV3.cell]; rfl)
         (have d6 : w3.cell? ⟨w1.heap.size, 1, none⟩ = some (.slice X2 m2 e2) := by rw [bV3.cell]; rfl)
         (have hAr3' : ArenaRd w w3 (.agg #[.slice X1 m1 e1, .slice X2 m2 e2]) xs ys := by
            obtain ⟨_, _, _, _, _, _, h, p1, p2⟩ := HAr2.out
            exact ⟨_, _, _, _, _, _, h, (p1.below (Below.refl _ w2).drew).below hb3, (p2.below (Below.refl _ w2).drew).below hb3⟩))
      | (try go_simp
         go_at_call 28
         refine (arenas_any w3 w w2.drew _ _ xs ys hxl hyl hAr3' hAr3).mono ?_
         rintro e w4 ⟨rfl, hb4⟩
         have hB4 := hB3.trans (hb4.mono hB3.size)))
    all_goals
      go_wp2_with fail
      go_ret
      exact ⟨rfl, hB4⟩
  · have C1 := hide (copy_bad _ AW AR nW cW nR cR ws rs (hW.below hB0) (hR.below hB0) hz)
    obtain ⟨x, hx⟩ : ∃ x, acheck nW nR ws rs = x := ⟨_, rfl⟩
    rw [hx] at C1 hz
    simp only [hx] at C4
    have y1 : (x != 0) = true := by rw [bne_iff_ne]; exact hz
    clear hz hx hB0
    go_enter Try.func7, Try.ntmps7
    go_wp2_with fail
    refine C1.out.mono ?_
    rintro e w1 ⟨rfl, hb1⟩
    have bA1 := (BA.out.below_ hb1).alloc (.cells #[.slice none 0 0, .slice none 0 0] 55)
    have hB1 := HB0.out.trans (hb1.mono HB0.out.size)
    have hB1' := hB1.alloc hB1.size (.cells #[.slice none 0 0, .slice none 0 0] 55)
    have bV1 := Blk.new w1 55 #[.slice none 0 0, .slice none 0 0]
    obtain ⟨a1, a2, a3⟩ := bA1.rules
    have HB1 := hide hB1'
    have BV1 := hide bV1
    clear hb1 hB1 hB1' bA1 bV1 HB0 BA C1
    go_wp2_with fail
    refine (C4.out _ HB1.out).mono ?_
    rintro e w2 ⟨rfl, hb2⟩
    have hB2 := HB1.out.trans (hb2.mono HB1.out.size)
    have bV2 := BV1.out.below_ hb2
    clear a1 a2 a3
    obtain ⟨v1, v2, v3⟩ := bV2.rules
    have HB2 := hide hB2
    clear hb2 hB2 bV2 HB1 BV1 C4
    go_wp2_with fail
    refine (arenas_any w2 w2 w2 _ _ [] [] (by simp) (by simp) (arenas_nil w2) (arenas_nil w2)).mono ?_
    rintro e w3 ⟨rfl, hb3⟩
    have hB3 := HB2.out.trans (hb3.mono HB2.out.size)
    have HB3 := hide hB3
    clear hB3 hb3 v1 v2 v3
    go_wp2_with fail
    go_ret
    exact ⟨rfl, HB3.out⟩
end Go.Proofs.Ytpbafmdebflbpaa

namespace Go.Proofs.Ytpbafmdebflbpaa
open Go.RowKit Go.Maps

def doneS (ws : List Int) (pre : List (Nat × Nat)) (L : List Int) (i : Int) : List Int := (headW (older 0 (headOf (ws.getD (plc pre i) 0))).1 false (older 0 (headOf (ws.getD (plc pre i) 0))).2.2) :: ((ws.drop (plc pre i + 1)).take (lenO pre i)).map (transW pre L)

set_option maxRecDepth 100000 in
set_option maxHeartbeats 16000000 in
theorem refSlide_any (w : World) (AW AR : Option Addr) (nW cW nR cR : Nat) (ws rs : List Int) (hW : WsIn w AW nW cW ws) (hR : WsIn w AR nR cR rs) (hz : acheck nW nR ws rs = 0) :
    Calls Try.prog 51 #[.agg #[.slice AW nW cW, .slice AR nR cR]] w fun e w' => ∃ v, e = .returned v ∧ Below w.heap.size w w' ∧
      ArenaRd w w' v ((reachR (graphOf ws (parse nW ws 0).1) (rs.map (turnW (ixOf (parse nW ws 0).1)))).flatMap (doneS ws (parse nW ws 0).1 (reachR (graphOf ws (parse nW ws 0).1) (rs.map (turnW (ixOf (parse nW ws 0).1))))))
        (rs.map (transW (parse nW ws 0).1 (reachR (graphOf ws (parse nW ws 0).1) (rs.map (turnW (ixOf (parse nW ws 0).1)))))) := by
  obtain ⟨h1, h2, h3, h4⟩ := acheck_zero hz
  have hw0 : ∀ x ∈ ws, 0 ≤ x := fun x hx => (hW.wf x hx).1
  have hG := good_of_check h4
  have hGW : ∀ x ∈ rs ++ fieldsOf ws (parse nW ws 0).1, GoodW (parse nW ws 0).1 x := fun x hx => by
    have hb : 0 ≤ x ∧ x ≤ 18446744073709551615 := by
      rcases List.mem_append.1 hx with h | h
      · exact hR.wf x h
      · obtain ⟨p, _, hp⟩ := List.mem_flatMap.1 h
        exact hW.wf x (List.mem_of_mem_drop (List.mem_of_mem_take hp))
    exact ⟨hb.1, hb.2, hG.e x hx, hG.ix x hx⟩
  have hgl : (graphOf ws (parse nW ws 0).1).length = (parse nW ws 0).1.length := by unfold graphOf; rw [List.length_map]
  have hvg : ∀ fs ∈ graphOf ws (parse nW ws 0).1, ValsOk (graphOf ws (parse nW ws 0).1).length fs := by rw [hgl]; exact ValsOk.of_graph fun x hx => hGW x (List.mem_append_right _ hx)
  have hvr : ValsOk (graphOf ws (parse nW ws 0).1).length (rs.map (turnW (ixOf (parse nW ws 0).1))) := by rw [hgl]; exact good_vals fun x hx => hGW x (List.mem_append_left _ hx)
  have hOK := reach_ok (gs := graphOf ws (parse nW ws 0).1) (vs := rs.map (turnW (ixOf (parse nW ws 0).1)))
  obtain ⟨hcl, hcr⟩ := reach_closed hvg hvr
  rw [hgl] at hOK
  have hfl : ∀ fs ∈ graphOf ws (parse nW ws 0).1, fs.length ≤ 4 := fun fs hfs => by
    obtain ⟨p, hp, rfl⟩ := List.mem_map.1 hfs
    have h5 := parse_mem nW ws 0 p hw0 hp
    have h6 := h5.2.1.1
    rw [h5.2.2.1] at h6
    unfold fieldsAt
    rw [List.length_map, List.length_take]
    omega
  have hpl : (parse nW ws 0).1.length ≤ 256 := by
    have h6 := parse_sum nW ws 0 (by omega) hw0
    have h7 : ∀ m : List (Nat × Nat), m.length ≤ (m.map fun p => 1 + p.2).sum := fun m => by
      induction m with
      | nil => simp
      | cons a m ih => simp only [List.map_cons, List.sum_cons, List.length_cons]; omega
    have h8 := h7 (parse nW ws 0).1
    have h9 := hW.len
    omega
  have hwd := move_words (nW := nW) (ws := ws) 0 hw0 (by rw [hW.len]; exact h1) (fun x hx => hGW x (List.mem_append_right _ hx)) hOK hcl
  have hrd : ((rs.map (turnW (ixOf (parse nW ws 0).1))).map (turnL (reachR (graphOf ws (parse nW ws 0).1) (rs.map (turnW (ixOf (parse nW ws 0).1)))))).map (packV (atF (renumF (graphOf ws (parse nW ws 0).1) (reachR (graphOf ws (parse nW ws 0).1) (rs.map (turnW (ixOf (parse nW ws 0).1))))))) = rs.map (transW (parse nW ws 0).1 (reachR (graphOf ws (parse nW ws 0).1) (rs.map (turnW (ixOf (parse nW ws 0).1))))) := by
    rw [List.map_map, List.map_map]
    refine List.map_congr_left fun x hx => ?_
    refine pack_trans _ hw0 (by rw [hW.len]; exact h1) (hGW x (List.mem_append_left _ hx)) hOK (renum_at hw0 hOK.rng) (fun hr => ?_)
    have h5 := hcr (turnW (ixOf (parse nW ws 0).1) x) (List.mem_map.2 ⟨x, hx, rfl⟩) hr
    have h6 : (turnW (ixOf (parse nW ws 0).1) x).2 = (ixOf (parse nW ws 0).1 (unA x) : Int) := by unfold turnW; rw [hr]; rfl
    rw [h6] at h5
    exact h5
  have hhd : ∀ h ∈ headsAt (headsL ws (parse nW ws 0).1) (reachR (graphOf ws (parse nW ws 0).1) (rs.map (turnW (ixOf (parse nW ws 0).1)))) 0, HdOk h := fun h hh => by
    obtain ⟨i, hi, rfl⟩ := List.mem_map.1 hh
    refine older_ok (by omega) ?_
    obtain ⟨i0, i1⟩ := hOK.rng i hi
    have hil : i.toNat < (headsL ws (parse nW ws 0).1).length := by unfold headsL; rw [List.length_map]; omega
    rw [List.getD_eq_getElem?_getD, List.getElem?_eq_getElem hil]
    exact headsL_ok hw0 _ (List.getElem_mem hil)
  have C1 := fun w' (hb : Below w.heap.size w w') => refRead_any w' AW AR nW cW nR cR ws rs (hW.below hb) (hR.below hb) hz
  have C4 := fun w' Al nl cl (hb : Below w.heap.size w w') l hl hnl hlr => headsOf_any w' AW AR Al nW cW nR cR nl cl 0 ws l (hW.below hb) h1 h3 hl hnl (by omega) hlr
  have hrl : (rs.map (turnW (ixOf (parse nW ws 0).1))).length ≤ 8 := by rw [List.length_map, hR.len]; exact h2
  rw [← hwd.trans (show _ = (reachR (graphOf ws (parse nW ws 0).1) (rs.map (turnW (ixOf (parse nW ws 0).1)))).flatMap (doneS ws (parse nW ws 0).1 (reachR (graphOf ws (parse nW ws 0).1) (rs.map (turnW (ixOf (parse nW ws 0).1))))) from rfl), ← hrd]
  rw [← hgl] at hOK hpl
  have hnum : (parse nW ws 0).1.length = (graphOf ws (parse nW ws 0).1).length := hgl.symm
  simp only [hnum] at C4
  obtain ⟨hs, hhs⟩ : ∃ hs, headsL ws (parse nW ws 0).1 = hs := ⟨_, rfl⟩
  simp only [hhs] at C4 hhd ⊢
  obtain ⟨vs, hvs⟩ : ∃ vs, rs.map (turnW (ixOf (parse nW ws 0).1)) = vs := ⟨_, rfl⟩
  simp only [hvs] at C1 hvr hOK hcl hcr hhd hrl ⊢
  obtain ⟨gs, hgs⟩ : ∃ gs, graphOf ws (parse nW ws 0).1 = gs := ⟨_, rfl⟩
  simp only [hgs] at C1 C4 hvg hvr hOK hcl hcr hfl hpl hhd ⊢
  obtain ⟨L, hL⟩ : ∃ L, reachR gs vs = L := ⟨_, rfl⟩
  simp only [hL] at hOK hcl hcr hhd ⊢
  have C2 := fun w' v (h : GraphRd w' (fun _ => True) v gs vs) => reach_any w' v gs vs h (by omega) (by omega) (fun fs hfs => by have := hfl fs hfs; omega)
  simp only [hL] at C2
  have hLl := hOK.len
  have C3 := fun w' v Al nl cl (h : GraphRd w' (fun _ => True) v gs vs) (hl : Rd w' (fun _ => True) 1 Al nl (ints L)) hnl => renumber_any w' v Al nl cl gs vs L h hl hOK.rng (by omega) hnl (by omega) (fun fs hfs => by have := hfl fs hfs; omega)
  have hrn : (renumF gs L).length = L.length := by unfold renumF; rw [List.length_map]
  have C5 := fun w' v AH nH cH (h : GraphRd w' (fun _ => True) v (renumF gs L) (vs.map (turnL L))) (hH : Rd w' (fun _ => True) 3 AH nH (hcells (headsAt hs L 0))) =>
    refLayG_any w' v AH nH cH (renumF gs L) (vs.map (turnL L)) (headsAt hs L 0) h (by rw [hrn]; unfold headsAt; rw [List.length_map]) hhd hH (by omega) (by rw [List.length_map]; exact hrl) (fun fs hfs => by
      obtain ⟨x, hx, rfl⟩ := List.mem_map.1 hfs
      rw [List.length_map]
      obtain ⟨x0, x1⟩ := hOK.rng x hx
      unfold fieldsI
      rw [List.getD_eq_getElem?_getD, List.getElem?_eq_getElem (by omega)]
      exact hfl _ (List.getElem_mem _)) (fun fs hfs v hv h1 => by
      obtain ⟨x, hx, rfl⟩ := List.mem_map.1 hfs
      obtain ⟨u, hu, rfl⟩ := List.mem_map.1 hv
      rw [hrn]
      unfold turnL at h1 ⊢
      by_cases h9 : u.1 = true
      · rw [if_pos h9]
        have := place_lt (hcl x hx u hu h9)
        dsimp only
        omega
      · rw [if_neg h9] at h1; exact absurd h1 h9) (fun v hv h1 => by
      obtain ⟨u, hu, rfl⟩ := List.mem_map.1 hv
      rw [hrn]
      unfold turnL at h1 ⊢
      by_cases h9 : u.1 = true
      · rw [if_pos h9]
        have := place_lt (hcr u hu h9)
        dsimp only
        omega
      · rw [if_neg h9] at h1; exact absurd h1 h9)
  have HC1 := hide C1
  have HC2 := hide C2
  have HC3 := hide C3
  have HC4 := hide C4
  have HC5 := hide C5
  have HLR := hide hOK.rng
  have hL256 : L.length ≤ 256 := by omega
  have hB0 : Below w.heap.size w ((w.alloc (.cells #[.slice AW nW cW, .slice AR nR cR] 55)).alloc (.cells #[.slice none 0 0, .slice none 0 0] 55)) := ((Below.refl _ w).alloc (Nat.le_refl _) _).alloc (by simp) _
  have b1 := (Blk.new w 55 #[.slice AW nW cW, .slice AR nR cR]).alloc (.cells #[.slice none 0 0, .slice none 0 0] 55)
  have b2 := Blk.new (w.alloc (.cells #[.slice AW nW cW, .slice AR nR cR] 55)) 55 #[.slice none 0 0, .slice none 0 0]
  rw [World.size_alloc] at b2
  have HB := hide hB0
  have HA := hide b1
  have HR := hide b2
  clear C1 C2 C3 C4 C5 hOK hwd hrd hnum hhs hvs hgs hL hG hGW hgl hvg hvr hcl hcr hfl hpl hhd hrl hLl hrn hz h1 h2 h3 h4 hw0 hB0 b1 b2
  go_enter Try.func51, Try.ntmps51
  go_wp2_with fail
  refine (HC1.out _ HB.out).mono ?_
  rintro e w1 ⟨v, rfl, hb1, hG1⟩
  obtain ⟨AO, nO, cO, Ag, ng, cg, obs, rfl, g1, g2, g3⟩ := hG1.ex
  have hA1 := (HA.out.below_ hb1).alloc (.cells #[.slice AO nO cO, .slice Ag ng cg] 52)
  have hR1 := (HR.out.below_ hb1).alloc (.cells #[.slice AO nO cO, .slice Ag ng cg] 52)
  have hV1 := Blk.new w1 52 #[.slice AO nO cO, .slice Ag ng cg]
  have hB1 := HB.out.trans (hb1.mono HB.out.size)
  have hB1' := hB1.alloc hB1.size (.cells #[.slice AO nO cO, .slice Ag ng cg] 52)
  have hG1' : GraphRd (w1.alloc (.cells #[.slice AO nO cO, .slice Ag ng cg] 52)) (fun _ => True) (.agg #[.slice AO nO cO, .slice Ag ng cg]) gs vs := (GraphRd.more hG1 (fun _ _ _ => trivial)).below ((Below.refl _ w1).alloc (Nat.le_refl _) _)
  have HB1 := hide hB1'
  have HA1 := hide hA1
  have HR1 := hide hR1
  have HV1 := hide hV1
  have HG1 := hide hG1'
  clear hA1 hR1 hV1 hB1 hB1' hG1 hG1' g1 g2 g3 hb1 HB HA HR HC1
  go_wp2_with fail
  refine (HC2.out _ _ HG1.out).mono ?_
  rintro e w2 ⟨Al, nl, cl, rfl, hP⟩
  have hb2 := hP.below_
  have hnl : L.length = nl := by have := (hP.rd_ 0 rfl).1; simpa using this
  have HB2 := hide (HB1.out.trans (hb2.mono HB1.out.size))
  have HA2 := hide (HA1.out.below_ hb2)
  have HR2 := hide (HR1.out.below_ hb2)
  have HV2 := hide (HV1.out.below_ hb2)
  have HG2 := hide (HG1.out.below hb2)
  have HL2 := hide (hP.rd_ 0 rfl)
  obtain ⟨v1, v2, v3⟩ := HV2.out.rules
  obtain ⟨u1, u2, u3⟩ := HA2.out.rules
  have v5 : w2.cell? ⟨w1.heap.size, 0, none⟩ = some (.slice AO nO cO) := by rw [v1]; rfl
  have v6 : w2.cell? ⟨w1.heap.size, 1, none⟩ = some (.slice Ag ng cg) := by rw [v1]; rfl
  have u5 : w2.cell? ⟨w.heap.size, 0, none⟩ = some (.slice AW nW cW) := by rw [u1]; rfl
  have u6 : w2.cell? ⟨w.heap.size, 1, none⟩ = some (.slice AR nR cR) := by rw [u1]; rfl
  clear hb2 hP v1 v2 v3 u1 u2 u3 HB1 HA1 HR1 HV1 HG1 HC2
  go_wp2_with fail
  go_region_law (first
    | (try go_simp
       go_at_call 68
       refine (HC3.out w2.drew _ Al nl cl (HG2.out.below (Below.refl _ w2).drew) (HL2.out.below (Below.refl _ w2).drew) (by omega)).mono ?_
       rintro e w3 ⟨vr, rfl, hb3, hG3⟩
       have hB3 := HB2.out.drew.trans (hb3.mono HB2.out.size)
       have hA3 := HA2.out.drew.below_ hb3
       have hR3 := HR2.out.drew.below_ hb3
       have hL3 := (HL2.out.below (Below.refl _ w2).drew).below hb3
       (have d5 : w3.cell? ⟨w.heap.size, 0, none⟩ = some (.slice AW nW cW) := by rw [hA3.cell]; rfl)
       (have d6 : w3.cell? ⟨w.heap.size, 1, none⟩ = some (.slice AR nR cR) := by rw [hA3.cell]; rfl))
    | (try go_simp
       go_at_call 69
       refine (HC4.out w3 Al nl cl hB3 L hL3 (by omega) HLR.out).mono ?_
       rintro e w4 ⟨AH, cH, rfl, hP4⟩
       have hb4 := hP4.below_
       have hB4 := hB3.trans (hb4.mono hB3.size)
       have hR4 := hR3.below_ hb4
       have hG4 := GraphRd.more (hG3.below hb4) (D' := fun _ => True) (fun _ _ _ => trivial)
       have hH4 := hP4.rd_ 0 rfl)
    | (try go_simp
       go_at_call 29
       refine (HC5.out w4 vr AH nl cH hG4 hH4).mono ?_
       rintro e w5 ⟨va, rfl, hb5, hAr5⟩
       obtain ⟨X1, m1, e1, X2, m2, e2, rfl, k1, k2⟩ := hAr5
       have hB5 := hB4.trans (hb5.mono hB4.size)
       have hR5 := hR4.below_ hb5
       obtain ⟨y1, y2, y3⟩ := hR5.rules))
  all_goals
    go_wp2_with fail
    have hF := (hR5.set_ 0 (.slice X1 m1 e1)).set_ 1 (.slice X2 m2 e2)
    have hB6 := (hB5.setCell (p := ⟨w.heap.size + 1, 0, none⟩) (by simp) (.slice X1 m1 e1)).setCell (p := ⟨w.heap.size + 1, 1, none⟩) (by simp) (.slice X2 m2 e2)
    have hc : Chg (fun g => g = w.heap.size + 1) w5 ((w5.setCell ⟨w.heap.size + 1, 0, none⟩ (.slice X1 m1 e1)).setCell ⟨w.heap.size + 1, 1, none⟩ (.slice X2 m2 e2)) := ((Chg.refl (fun g => g = w.heap.size + 1) w5).setCell (p := ⟨w.heap.size + 1, 0, none⟩) (.inl rfl) _).setCell (p := ⟨w.heap.size + 1, 1, none⟩) (.inl rfl) _
    refine bodyPost_ret (v := .agg #[.slice X1 m1 e1, .slice X2 m2 e2]) (by simp [results, Try.results51, go_sem, y1]) rfl ⟨_, rfl, hB6, ?_⟩
    have hs4 := hB4.size
    have hr4 := hR4.lt
    exact ⟨_, _, _, _, _, _, rfl, (k1.chg hc (fun g h1 h2 => by omega)).more (fun g _ h => by omega), (k2.chg hc (fun g h1 h2 => by omega)).more (fun g _ h => by omega)⟩

end Go.Proofs.Ytpbafmdebflbpaa
