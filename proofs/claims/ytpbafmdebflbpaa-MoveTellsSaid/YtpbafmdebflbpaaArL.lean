/- The law ArenaLays: the walk. -/
import Derived.Test.YtpbafmdebflbpaaArC
import Derived.Deep.RegionHeld3
namespace Go.Proofs.Ytpbafmdebflbpaa
open Go.RowKit

theorem gcheck_zero {nO nR : Nat} {obs : List Ob} {roots : List Val} (h : gcheck nO nR obs roots = 0) :
    nO ≤ 24 ∧ nR ≤ 8 ∧ (∀ o ∈ obs, o.n ≤ 4) ∧ ∀ v ∈ allVals obs roots, v.1 = true → 0 ≤ v.2 ∧ v.2 < nO := by
  unfold gcheck at h
  split at h
  · omega
  rename_i h1
  split at h
  · omega
  rename_i h2
  refine ⟨by omega, by omega, fun o ho => ?_, fun v hv hv1 => ?_⟩
  · have h3 : obs.any large = false := by
      cases h4 : obs.any large with
      | false => rfl
      | true => exact absurd (Or.inr (Or.inr h4)) h1
    have h5 := List.any_eq_false.1 h3 o ho
    unfold large at h5
    simp at h5
    omega
  · have h3 : (allVals obs roots).any (badArg nO) = false := by
      cases h4 : (allVals obs roots).any (badArg nO) with
      | false => rfl
      | true => exact absurd h4 h2
    have h5 := List.any_eq_false.1 h3 v hv
    unfold badArg at h5
    rw [hv1] at h5
    simp at h5
    omega

set_option maxHeartbeats 800000 in
theorem words_same (w : World) (D D' : Nat → Prop) (A A' : Option Addr) (n c c' : Nat) (xs : List Int) (hn : n ≤ 9223372036854775807)
    (h : Rd w D 1 A n (u64s xs)) (h' : Rd w D' 1 A' n (u64s xs)) :
    Calls Try.prog 62 #[.slice A n c, .slice A' n c'] w fun e w' => e = .returned (.bool true) ∧ Below w.heap.size w w' := by
  have HL := hide (show xs.length = n by have := h.1; simpa [u64s] using this)
  go_enter Try.func62, Try.ntmps62
  go_wp2_with fail
  go_loopw [5] (fun i wr => ∃ k : Nat, k ≤ n ∧ i = .int .i64 k ∧ Below w.heap.size w wr) (fun i _ => n - (intOf i).toNat)
  case atStart => exact ⟨0, by omega, rfl, Below.refl _ _⟩
  case round =>
    obtain ⟨k, hk, rfl, hB⟩ := hrel
    by_cases hlt : k < n
    · have hkl : k < xs.length := by rw [HL.out]; exact hlt
      obtain ⟨ad, hA, _, had, hc⟩ := (h.below hB).at_ hlt
      obtain ⟨ad', hA', _, had', hc'⟩ := (h'.below hB).at_ hlt
      have e0 := hc (.int .u64 xs[k]) (by simp [u64s, List.getElem?_eq_getElem hkl])
      have e1 := hc' (.int .u64 xs[k]) (by simp [u64s, List.getElem?_eq_getElem hkl])
      obtain ⟨x, hx⟩ : ∃ x, xs[k] = x := ⟨_, rfl⟩
      rw [hx] at e0 e1
      subst hA hA'
      clear hc hc' hx
      go_wp2_with fail
      go_quiet (fail)
      go_wp2_with fail
      go_roundw
      case rel => exact ⟨k + 1, by omega, by go_num, below_drewN hB _⟩
      case measure => simp [intOf]; omega
    · go_wp2_with fail
      go_ret
      exact ⟨rfl, hB⟩

theorem arenas_any (w w1 w2 : World) (v v' : Value) (a b : List Int) (ha : a.length ≤ 1000) (hb : b.length ≤ 1000) (h : ArenaRd w1 w v a b) (h' : ArenaRd w2 w v' a b) :
    Calls Try.prog 28 #[v, v'] w fun e w' => e = .returned (.bool true) ∧ Below w.heap.size w w' := by
  obtain ⟨A1, n1, c1, A2, n2, c2, rfl, f1, f2⟩ := h
  obtain ⟨B1, m1, d1, B2, m2, d2, rfl, g1, g2⟩ := h'
  have l1 : a.length = n1 := by have := f1.1; simpa [u64s] using this
  have l2 : b.length = n2 := by have := f2.1; simpa [u64s] using this
  have e1 : a.length = m1 := by have := g1.1; simpa [u64s] using this
  have e2 : b.length = m2 := by have := g2.1; simpa [u64s] using this
  subst l1 l2 e1 e2
  have hB0 : Below w.heap.size w ((w.alloc (.cells #[.slice A1 a.length c1, .slice A2 b.length c2] 55)).alloc (.cells #[.slice B1 a.length d1, .slice B2 b.length d2] 55)) := ((Below.refl _ w).alloc (Nat.le_refl _) _).alloc (by simp) _
  have C1 := hide (words_same _ _ _ A1 B1 a.length c1 d1 a (by omega) (f1.below hB0) (g1.below hB0))
  have HB0 := hide hB0
  have b1 := (Blk.new w 55 #[.slice A1 a.length c1, .slice A2 b.length c2]).alloc (.cells #[.slice B1 a.length d1, .slice B2 b.length d2] 55)
  have b2 := Blk.new (w.alloc (.cells #[.slice A1 a.length c1, .slice A2 b.length c2] 55)) 55 #[.slice B1 a.length d1, .slice B2 b.length d2]
  rw [World.size_alloc] at b2
  have HB1 := hide b1
  have HB2 := hide b2
  clear b1 b2 hB0 f1 g1
  go_enter Try.func28, Try.ntmps28
  go_wp2_with fail
  refine C1.out.mono ?_
  rintro e w3 ⟨rfl, hB3⟩
  obtain ⟨i1, i2, i3⟩ := (HB1.out.below_ hB3).rules
  obtain ⟨j1, j2, j3⟩ := (HB2.out.below_ hB3).rules
  have hz := hB3.size
  simp at hz
  have hB4 := HB0.out.trans (hB3.mono (by simp; omega))
  go_wp2_with fail
  refine (words_same _ _ _ A2 B2 b.length c2 d2 b (by omega) (f2.below hB4) (g2.below hB4)).mono ?_
  rintro e w4 ⟨rfl, hB5⟩
  go_wp2_with fail
  go_ret
  exact ⟨rfl, hB4.trans (hB5.mono (by omega))⟩

theorem ArenaRd.below {w0 w w' : World} {v : Value} {a b : List Int} (h : ArenaRd w0 w v a b) (hb : Below w.heap.size w w') : ArenaRd w0 w' v a b := by
  obtain ⟨A1, n1, c1, A2, n2, c2, rfl, h1, h2⟩ := h
  exact ⟨_, _, _, _, _, _, rfl, h1.below hb, h2.below hb⟩
theorem ArenaRd.nil (w0 w : World) : ArenaRd w0 w (.agg #[.slice none 0 0, .slice none 0 0]) [] [] := ⟨none, 0, 0, none, 0, 0, rfl, Rd.nil, Rd.nil⟩

set_option maxRecDepth 100000 in
set_option maxHeartbeats 4000000 in
theorem arenaLays_walk (w : World) (AO AR : Option Addr) (nO cO nR cR : Nat) (obs : List Ob) (roots : List Val) (hO : ObsRd w (fun _ => True) AO nO obs) (hR : Rd w (fun _ => True) 2 AR nR (vals roots)) :
    Calls Try.prog 6 #[.agg #[.slice AO nO cO, .slice AR nR cR]] w fun e w' => e = .returned (.bool true) ∧ Below w.heap.size w w' := by
  have hB0 : Below w.heap.size w (w.alloc (.cells #[.slice AO nO cO, .slice AR nR cR] 52)) := (Below.refl _ w).alloc (Nat.le_refl _) _
  have bG := Blk.new w 52 #[.slice AO nO cO, .slice AR nR cR]
  by_cases hbad : gcheck nO nR obs roots = 0
  · obtain ⟨h1, h2, hfl, hv⟩ := gcheck_zero hbad
    have hvO : ∀ o ∈ obs, ∀ v ∈ o.fields, v.1 = true → 0 ≤ v.2 ∧ v.2 < nO := fun o ho v hv1 => hv v (by unfold allVals; exact List.mem_append.2 (.inr (List.mem_flatMap.2 ⟨o, ho, hv1⟩)))
    have hvR : ∀ v ∈ roots, v.1 = true → 0 ≤ v.2 ∧ v.2 < nO := fun v hv1 => hv v (by unfold allVals; exact List.mem_append.2 (.inl hv1))
    have c1 := lay_ok _ AO AR nO cO nR cR obs roots hbad (hO.below hB0) (hR.below hB0) h1 h2 hfl hvO hvR
    have c2 := fun w' (hb : Below w.heap.size w w') => refCheck_any w' AO AR nO cO nR cR obs roots (hO.below hb) (hR.below hb)
    have c3 := fun w' (hb : Below w.heap.size w w') => plain_any w' AO AR nO cO nR cR obs (hO.below hb) h1
    have c4 := fun w' (hb : Below w.heap.size w w') AH cH (hH : Rd w' (fun _ => True) 3 AH nO (vheads obs)) => refLay_any w' AO AR AH nO cO nR cR cH obs roots (hO.below hb) (hR.below hb) hH h1 h2 hfl hvO hvR
    rw [hbad] at c2
    have lw : (wordsL (atL obs nO) obs).length ≤ 1000 := by
      have := wordsL_len (atL obs nO) obs (fun o ho => by rw [hO.flen ho]; exact hfl o ho)
      have := hO.len
      omega
    have lr : (roots.map (packV (atL obs nO))).length ≤ 1000 := by
      have := hR.1
      rw [vals_length] at this
      rw [List.length_map]; omega
    obtain ⟨ws, hws⟩ : ∃ ws, wordsL (atL obs nO) obs = ws := ⟨_, rfl⟩
    obtain ⟨rs, hrs⟩ : ∃ rs, roots.map (packV (atL obs nO)) = rs := ⟨_, rfl⟩
    rw [hws] at lw
    rw [hrs] at lr
    rw [hws, hrs] at c1
    simp only [hws, hrs] at c4
    have C1 := hide c1
    have C2 := hide c2
    have C3 := hide c3
    have C4 := hide c4
    have HB0 := hide hB0
    have BG := hide bG
    have LW := hide lw
    have LR := hide lr
    clear c1 c2 c3 c4 hws hrs hbad h1 h2 hfl hv hvO hvR hO hR hB0 bG lw lr
    go_enter Try.func6, Try.ntmps6
    go_wp2_with fail
    refine C1.out.mono ?_
    rintro e w1 ⟨v, rfl, hb1, hA1⟩
    obtain ⟨A1, n1, c1, A2, n2, c2, rfl, f1, f2⟩ := hA1
    have bG1 := BG.out.below_ hb1
    have hB1 := HB0.out.trans (hb1.mono (by simp))
    obtain ⟨g1, g2, g3⟩ := bG1.rules
    have hz1 := hB1.size
    go_wp2_with fail
    refine (C2.out _ (hB1.alloc hz1 _)).mono ?_
    rintro e w2 ⟨rfl, hb2⟩
    have hz2 := hb2.size
    simp at hz2
    have hB2 := (hB1.alloc hz1 (.cells #[.slice A1 n1 c1, .slice A2 n2 c2] 55)).trans (hb2.mono (by simp; omega))
    have bG2 := (bG1.alloc (.cells #[.slice A1 n1 c1, .slice A2 n2 c2] 55)).below_ hb2
    have bA2 := (Blk.new w1 55 #[.slice A1 n1 c1, .slice A2 n2 c2]).below_ hb2
    have hA2 : ArenaRd (w.alloc (.cells #[.slice AO nO cO, .slice AR nR cR] 52)) w2 (.agg #[.slice A1 n1 c1, .slice A2 n2 c2]) ws rs := ArenaRd.below ⟨A1, n1, c1, A2, n2, c2, rfl, f1, f2⟩ (((Below.refl _ w1).alloc (Nat.le_refl _) _).trans (hb2.mono (by simp)))
    have s0 : w2.cell? ⟨w.heap.size, 0, none⟩ = some (.slice AO nO cO) := by rw [bG2.cell]; rfl
    have s1 : w2.cell? ⟨w.heap.size, 1, none⟩ = some (.slice AR nR cR) := by rw [bG2.cell]; rfl
    have s2 : w2.cell? ⟨w1.heap.size, 0, none⟩ = some (.slice A1 n1 c1) := by rw [bA2.cell]; rfl
    have s3 : w2.cell? ⟨w1.heap.size, 1, none⟩ = some (.slice A2 n2 c2) := by rw [bA2.cell]; rfl
    have hzw := hB2.size
    clear g1 g2 g3 f1 f2 hb1 hb2 C1 C2
    go_wp2_with fail
    go_region_held3 (fun w' => w'.cell? ⟨w.heap.size, 0, none⟩ = some (.slice AO nO cO) ∧ w'.cell? ⟨w.heap.size, 1, none⟩ = some (.slice AR nR cR) ∧ w'.cell? ⟨w1.heap.size, 0, none⟩ = some (.slice A1 n1 c1) ∧ w'.cell? ⟨w1.heap.size, 1, none⟩ = some (.slice A2 n2 c2))
      (first | (refine ⟨?_, ?_, ?_, ?_⟩ <;> assumption) | go_keep) (first
      | (go_at_call 30
         refine (C3.out _ (by first | exact hB2.drew | exact hB2)).mono ?_
         rintro e w4 ⟨AH, cH, rfl, hSP⟩
         have hB4 := hB2.drew.trans (hSP.below_.mono hzw)
         have hz4 := hB4.size
         have bG4 := bG2.drew.below_ hSP.below_
         have bA4 := bA2.drew.below_ hSP.below_
         (have hA4 : ArenaRd (w.alloc (.cells #[.slice AO nO cO, .slice AR nR cR] 52)) w4 (.agg #[.slice A1 n1 c1, .slice A2 n2 c2]) ws rs := hA2.below ((Below.refl _ w2).drew.trans hSP.below_))
         (have t0 : w4.cell? ⟨w.heap.size, 0, none⟩ = some (.slice AO nO cO) := by rw [bG4.cell]; rfl)
         (have t1 : w4.cell? ⟨w.heap.size, 1, none⟩ = some (.slice AR nR cR) := by rw [bG4.cell]; rfl)
         (have t2 : w4.cell? ⟨w1.heap.size, 0, none⟩ = some (.slice A1 n1 c1) := by rw [bA4.cell]; rfl)
         (have t3 : w4.cell? ⟨w1.heap.size, 1, none⟩ = some (.slice A2 n2 c2) := by rw [bA4.cell]; rfl))
      | (go_at_call 29
         refine (C4.out _ hB4 AH cH (hSP.rd_ 0 rfl)).mono ?_
         rintro e w5 ⟨v5, rfl, hb5, hA5⟩
         have hB5 := hB4.trans (hb5.mono hz4)
         have hz5 := hB5.size
         have bG5 := bG4.below_ hb5
         have bA5 := bA4.below_ hb5
         (have hA45 : ArenaRd (w.alloc (.cells #[.slice AO nO cO, .slice AR nR cR] 52)) w5 (.agg #[.slice A1 n1 c1, .slice A2 n2 c2]) ws rs := hA4.below hb5)
         (have u0 : w5.cell? ⟨w.heap.size, 0, none⟩ = some (.slice AO nO cO) := by rw [bG5.cell]; rfl)
         (have u1 : w5.cell? ⟨w.heap.size, 1, none⟩ = some (.slice AR nR cR) := by rw [bG5.cell]; rfl)
         (have u2 : w5.cell? ⟨w1.heap.size, 0, none⟩ = some (.slice A1 n1 c1) := by rw [bA5.cell]; rfl)
         (have u3 : w5.cell? ⟨w1.heap.size, 1, none⟩ = some (.slice A2 n2 c2) := by rw [bA5.cell]; rfl))
      | (go_at_call 28
         refine (arenas_any w5 _ _ _ _ ws rs LW.out LR.out hA45 hA5).mono ?_
         rintro e w6 ⟨rfl, hb6⟩
         have hB6 := hB5.trans (hb6.mono hz5)
         have bG6 := bG5.below_ hb6
         have bA6 := bA5.below_ hb6
         (have x0 : w6.cell? ⟨w.heap.size, 0, none⟩ = some (.slice AO nO cO) := by rw [bG6.cell]; rfl)
         (have x1 : w6.cell? ⟨w.heap.size, 1, none⟩ = some (.slice AR nR cR) := by rw [bG6.cell]; rfl)
         (have x2 : w6.cell? ⟨w1.heap.size, 0, none⟩ = some (.slice A1 n1 c1) := by rw [bA6.cell]; rfl)
         (have x3 : w6.cell? ⟨w1.heap.size, 1, none⟩ = some (.slice A2 n2 c2) := by rw [bA6.cell]; rfl)))
    all_goals
      go_wp2_with fail
      go_ret
      exact ⟨rfl, hB6⟩
  · obtain ⟨x, hx⟩ : ∃ x, gcheck nO nR obs roots = x := ⟨_, rfl⟩
    have c1 := lay_bad _ AO AR nO cO nR cR obs roots x hx (by rw [← hx]; exact hbad) (hO.below hB0) (hR.below hB0)
    have c2 := fun w' (hb : Below w.heap.size w w') => refCheck_any w' AO AR nO cO nR cR obs roots (hO.below hb) (hR.below hb)
    rw [hx] at c2 hbad
    have y1 : (x != 0) = true := by rw [bne_iff_ne]; exact hbad
    have C1 := hide c1
    have C2 := hide c2
    have HB0 := hide hB0
    have BG := hide bG
    clear c1 c2 hx hbad hO hR hB0 bG
    go_enter Try.func6, Try.ntmps6
    go_wp2_with fail
    refine C1.out.mono ?_
    rintro e w1 ⟨rfl, hb1⟩
    have bG1 := BG.out.below_ hb1
    have hB1 := HB0.out.trans (hb1.mono (by simp))
    obtain ⟨g1, g2, g3⟩ := bG1.rules
    have hz1 := hB1.size
    go_wp2_with fail
    refine (C2.out _ (hB1.alloc hz1 _)).mono ?_
    rintro e w2 ⟨rfl, hb2⟩
    have hz2 := hb2.size
    simp at hz2
    have hB2 := (hB1.alloc hz1 (.cells #[.slice none 0 0, .slice none 0 0] 55)).trans (hb2.mono (by simp; omega))
    obtain ⟨a1, a2, a3⟩ := ((Blk.new w1 55 #[.slice none 0 0, .slice none 0 0]).below_ hb2).rules
    clear g1 g2 g3
    go_wp2_with fail
    refine (arenas_any w2 w2 w2 _ _ [] [] (by simp) (by simp) (ArenaRd.nil _ _) (ArenaRd.nil _ _)).mono ?_
    rintro e w3 ⟨rfl, hb3⟩
    have hz3 := hB2.size
    go_wp2_with fail
    go_ret
    exact ⟨rfl, hB2.trans (hb3.mono (by omega))⟩
end Go.Proofs.Ytpbafmdebflbpaa
