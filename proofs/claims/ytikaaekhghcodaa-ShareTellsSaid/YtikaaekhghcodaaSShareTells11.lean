/- Share: the program's. -/
import Derived.Test.YtikaaekhghcodaaSShareTells10
import Derived.Test.YtikaaekhghcodaaSShareTells9
import Derived.BigQuiet
import Derived.StillTailTactics
import Derived.Test.YtikaaekhghcodaaSShareTells5
set_option linter.unusedSimpArgs false
set_option linter.unusedVariables false
namespace Go.Proofs.Ytikaaekhghcodaa
open Go.RowKit
set_option maxRecDepth 100000 in
set_option maxHeartbeats 1600000 in
theorem share_bad (w : World) (AO AR : Option Addr) (nO cO nR cR : Nat) (obs : List Ob) (roots : List Val) (hbad : gcheck nO nR obs roots ≠ 0) (hO : ObsRd w (fun _ => True) AO nO obs) (hR : Rd w (fun _ => True) 2 AR nR (vals roots)) :
    Calls Try.prog 9 #[.agg #[.slice AO nO cO, .slice AR nR cR]] w fun e w' => e = .returned (.tuple #[.agg #[.slice none 0 0, .slice none 0 0], .slice none 0 0, .int .i64 (gcheck nO nR obs roots)]) ∧ Below w.heap.size w w' := by
  have hS0 := ((Sep.nil No w).blkAt 25 #[.slice AO nO cO, .slice AR nR cR] rfl).blkAt 25 #[.slice none 0 0, .slice none 0 0] (g := w.heap.size + 1) (by simp)
  have C := hide (graphCheck_any _ AO AR nO cO nR cR obs roots (hO.below hS0.below_) (hR.below hS0.below_))
  obtain ⟨x, hx⟩ : ∃ x, gcheck nO nR obs roots = x := ⟨_, rfl⟩
  rw [hx] at C hbad ⊢
  have HS := hide hS0
  have t1 : (x != 0) = true := by simp [hbad]
  clear hS0 hO hR hx hbad
  go_enter Try.func9, Try.ntmps9
  go_wp2_with fail
  refine C.out.mono ?_
  rintro e w1 ⟨rfl, hB1⟩
  have hS1 := HS.out.below hB1
  obtain ⟨a1, a2, a3, a4⟩ := hS1.rules 1 (g := w.heap.size + 1) (t := 25) rfl
  have a5 := (a1 0).trans (show _ = some (.slice none 0 0) from rfl)
  have a6 := (a1 1).trans (show _ = some (.slice none 0 0) from rfl)
  have h2 := (hS1.set_ 1 (g := w.heap.size + 1) rfl 0 (.slice none 0 0)).set_ 1 (g := w.heap.size + 1) rfl 1 (.slice none 0 0)
  obtain ⟨b1, b2, b3, b4⟩ := h2.rules 1 (g := w.heap.size + 1) (t := 25) rfl
  have b5 := (b1 0).trans (show _ = some (.slice none 0 0) from rfl)
  have b6 := (b1 1).trans (show _ = some (.slice none 0 0) from rfl)
  have HB1 := hide h2.below_
  clear HS hS1 hB1 C a1 b1 h2
  go_wp2_with fail
  obtain ⟨W9, hW9⟩ : ∃ W9, ((w1.setCell ⟨w.heap.size + 1, 0, none⟩ (.slice none 0 0)).setCell ⟨w.heap.size + 1, 1, none⟩ (.slice none 0 0)) = W9 := ⟨_, rfl⟩
  rw [hW9] at b5 b6 HB1 ⊢
  refine bodyPost_ret (v := .tuple #[.agg #[.slice none 0 0, .slice none 0 0], .slice none 0 0, .int .i64 x]) (by simp [results, Try.results9, go_sem, b5, b6]) rfl ⟨rfl, HB1.out⟩
set_option maxRecDepth 100000 in
set_option maxHeartbeats 6400000 in
theorem share_ok (w : World) (AO AR : Option Addr) (nO cO nR cR : Nat) (obs : List Ob) (roots : List Val) (hbad : gcheck nO nR obs roots = 0) (hO : ObsRd w (fun _ => True) AO nO obs) (hR : Rd w (fun _ => True) 2 AR nR (vals roots)) (gs : List (List Val)) (hgs : obs.map Ob.fields = gs) :
    Calls Try.prog 9 #[.agg #[.slice AO nO cO, .slice AR nR cR]] w fun e w' => ∃ v Al cl, e = .returned (.tuple #[v, .slice Al nO cl, .int .i64 0]) ∧ Below w.heap.size w w' ∧
      GraphRd w' (fun g => w.heap.size ≤ g) v (outF gs (lotN (apR gs) nO).2 (lotN (apR gs) nO).1) (roots.map (turnV (lotN (apR gs) nO).2)) ∧ Rd w' (fun g => w.heap.size ≤ g) 1 Al nO (nts (lotN (apR gs) nO).2) := by
  have ok := gok_of hO hbad
  have HREF := hide (show RefOk gs nO from by rw [← hgs]; exact ok.vg)
  have hS0 := ((Sep.nil No w).blkAt 25 #[.slice AO nO cO, .slice AR nR cR] rfl).blkAt 25 #[.slice none 0 0, .slice none 0 0] (g := w.heap.size + 1) (by simp)
  have C := hide (graphCheck_any _ AO AR nO cO nR cR obs roots (hO.below hS0.below_) (hR.below hS0.below_))
  rw [hbad] at C
  have HS0 := hide hS0
  have HOK := hide ok
  have HOO := hide hO
  have HRR := hide hR
  have HGS := hide hgs
  have hnO := ok.nO_
  have hnR := ok.nR_
  obtain ⟨ap, hap⟩ : ∃ ap, apR gs = ap := ⟨_, rfl⟩
  rw [hap]
  have HAQ := hide hap
  clear hS0 ok hO hR hgs hbad hap
  go_enter Try.func9, Try.ntmps9
  go_wp2_with fail
  refine C.out.mono ?_
  rintro e w1 ⟨rfl, hB1⟩
  have HS1 := hide (HS0.out.below hB1)
  obtain ⟨a1, a2, a3, a4⟩ := HS1.out.rules 0 (g := w.heap.size) (t := 25) rfl
  have a5 := (a1 0).trans (show _ = some (.slice AO nO cO) from rfl)
  have a6 := (a1 1).trans (show _ = some (.slice AR nR cR) from rfl)
  have C2 := hide (apart_any w1 AO AR nO cO nR cR obs roots HOK.out (HOO.out.below HS1.out.below_))
  rw [HGS.out] at C2
  clear a1 a4 C HS0 hB1
  go_wp2_with fail
  refine C2.out.mono ?_
  rintro e w2 ⟨bm, N, nn, rfl, hSm, hnn, hcl⟩
  have HAP := hide (show ∀ f i, f < nO → i < nO → (knD gs nO nn (f, i)).isSome = ap f i from fun f i hf hi => by
    rw [← HAQ.out]
    unfold apR
    rw [toldR_eq HREF.out hnn hcl (p := (f, i)) ⟨hf, hi⟩, show knD gs nO nn (f, i) = kn gs nn (f, i) from by unfold knD; rw [if_pos ⟨hf, hi⟩]]
    cases kn gs nn (f, i) <;> rfl)
  have hS2 := (HS1.out.call0 hSm).blkAt 26 #[.slice none 0 0] (g := w2.heap.size) rfl
  obtain ⟨gl, hgl⟩ : ∃ x, w2.heap.size = x := ⟨_, rfl⟩
  obtain ⟨a1, a2', a3', a4⟩ := hS2.rules 1 (g := w.heap.size) (t := 25) rfl
  have a7 := (a1 0).trans (show _ = some (.slice AO nO cO) from rfl)
  rw [hgl] at hS2
  have HS2 := hide (((hS2.nilRow0 3 1).nilRow0 3 1))
  clear hS2 hSm C2 HS1 hcl a1 a4 a5 a6 a2 a3
  go_wp2_with fail
  go_loopw [7, 30] (fun s7 s30 wr => ∃ (i n : Nat) (A : Option Addr) (c : Nat) (Al : Option Addr) (cl : Nat), i ≤ nO ∧ s30 = .int .i64 (i : Int) ∧ s7 = .slice A n c ∧ Hid ((lotN ap i).1.length = n) ∧
    Sep No w wr [rowI 3 1 A n c (nts (lotN ap i).1), rowI 3 1 Al i cl (nts (lotN ap i).2), pmI bm N (knD gs nO nn), blkI w.heap.size 25 #[.slice AO nO cO, .slice AR nR cR], blkI (w.heap.size + 1) 25 #[.slice none 0 0, .slice none 0 0], blkI gl 26 #[.slice Al i cl]]) (fun _ s _ => nO - (intOf s).toNat)
  case atStart => exact ⟨0, 0, none, 0, none, 0, by omega, rfl, rfl, rfl, HS2.out⟩
  case round =>
    clear HS2
    obtain ⟨i, n, A, c, Al, cl, hi, rfl, rfl, HN, hS⟩ := hrel
    obtain ⟨hl1, hl2, hl3⟩ := lotN_ok ap i
    by_cases hlt : i < nO
    · have hn24 : n ≤ 24 := by rw [← HN.out]; omega
      have HL3 := hide hl3
      have HS := hide hS
      have HNO := hide (show ∀ (j : Nat) (hj : j < (lotN ap i).1.length), j < 0 → ap (lotN ap i).1[j] i = true from fun j _ h => by omega)
      clear hS hl1 hl2 hl3 a7
      go_wp2_with fail
      go_loopw [10, 37] (fun s10 s37 wx => ∃ k : Nat, k ≤ n ∧ s10 = .int .i64 (n : Int) ∧ s37 = .int .i64 (k : Int) ∧ Hid (∀ (j : Nat) (hj : j < (lotN ap i).1.length), j < k → ap (lotN ap i).1[j] i = true) ∧ Below wr.heap.size wr wx) (fun _ s _ => n - (intOf s).toNat)
      case atStart => exact ⟨0, by omega, rfl, rfl, HNO, Below.refl _ _⟩
      case round =>
        clear HNO
        obtain ⟨k, hk, rfl, rfl, HNO, hB⟩ := hrel
        have hSx := HS.out.below hB
        by_cases hkn : k < n
        · have hkl : k < (lotN ap i).1.length := by rw [HN.out]; exact hkn
          obtain ⟨ad, rfl⟩ := nts_some (hSx.get 0 rfl) (by omega)
          obtain ⟨x1, x2⟩ := nts_at (hSx.get 0 rfl) hkn hkl
          have hf := HL3.out _ (List.getElem_mem hkl)
          have HE := hide (show ∀ r, ap (lotN ap i).1[k] i = r → (knD gs nO nn ((lotN ap i).1[k], i)).isSome = r from fun r hr => by rw [HAP.out _ _ (by omega) hlt, hr])
          have hL := pm_look (hSx.get 2 rfl) ((lotN ap i).1[k], i) ⟨by dsimp only; omega, by dsimp only; omega⟩
          obtain ⟨r, hr⟩ : ∃ r, ap (lotN ap i).1[k] i = r := ⟨_, rfl⟩
          rw [HE.out r hr] at hL
          obtain ⟨z, hz⟩ : ∃ z, numO (knD gs nO nn ((lotN ap i).1[k], i)) = z := ⟨_, rfl⟩
          rw [hz] at hL
          have HR := hide hr
          obtain ⟨f, hfe⟩ : ∃ f, (lotN ap i).1[k] = f := ⟨_, rfl⟩
          rw [hfe] at hL x1 hf
          unfold prV at hL
          dsimp only at hL
          have HSx := hide hSx
          have HB := hide hB
          clear hSx hB hr hz HE hfe
          cases r with
          | true =>
            have HNO2 := hide (show ∀ (j : Nat) (hj : j < (lotN ap i).1.length), j < k + 1 → ap (lotN ap i).1[j] i = true from fun j hj h => by
              rcases Nat.lt_or_ge j k with h5 | h5
              · exact HNO.out j hj h5
              · obtain rfl : j = k := by omega
                exact HR.out)
            clear HNO HR
            go_wp2_with fail
            go_roundw
            case rel => exact ⟨k + 1, by omega, rfl, by go_num, HNO2, HB.out⟩
            case measure => simp [intOf]; omega
          | false =>
            have HLO := hide (lot_old hkl HNO.out HR.out)
            obtain ⟨l1, l2, l3, l4⟩ := HSx.out.rules 5 (g := gl) (t := 26) rfl
            have l5 := (l1 0).trans (show _ = some (.slice Al i cl) from rfl)
            clear HNO HR l1 l4
            go_wp2_with (at_builtin
                         refine wpList_app1 (cs := #[.int .i64 (k : Int)]) rfl (.tmp 62) (.tmp 64) 26 rfl sInt HSx.out 1 (n := i) rfl rfl rfl (by simp) rfl rfl (by omega) ?_
                         intro A4 c4 w4 hS4 hC4
                         obtain ⟨l6, l7, l8, l9⟩ := hS4.rules 5 (g := gl) (t := 26) rfl
                         (have l10 := (l6 0).trans (show _ = some (.slice Al i cl) from rfl))
                         have HS9 := hide (hS4.set_ 5 (g := gl) rfl 0 (.slice A4 (i + 1) c4))
                         clear hS4 hC4 l6 l9 l2 l3 l5)
            go_roundw
            case rel => exact ⟨i + 1, n, _, c, A4, c4, by omega, by go_num, rfl, by rw [HLO.out]; exact HN.out, by rw [HLO.out]; rw [nts_snoc]; exact HS9.out⟩
            case measure => simp [intOf]; omega
        · obtain rfl : k = n := by omega
          have HLW := hide (lot_new (by rw [HN.out]; omega) HNO.out)
          obtain ⟨l1, l2, l3, l4⟩ := hSx.rules 5 (g := gl) (t := 26) rfl
          have l5 := (l1 0).trans (show _ = some (.slice Al i cl) from rfl)
          have HSx := hide hSx
          clear HNO l1 l4 hSx hB
          go_wp2_with (first
            | (at_builtin
               refine wpList_app1 (cs := #[.int .i64 (i : Int)]) rfl (.tmp 58) (.tmp 60) 26 rfl sInt HSx.out 0 (n := k) rfl rfl rfl (by simp) rfl rfl (by omega) ?_
               intro A3 c3 w3 hS3 hC3
               obtain ⟨l6, l7, l8, l9⟩ := hS3.rules 5 (g := gl) (t := 26) rfl
               (have l10 := (l6 0).trans (show _ = some (.slice Al i cl) from rfl))
               (have HS3 := hide hS3)
               clear hS3 hC3 l6 l9 l2 l3 l5)
            | (at_builtin
               refine wpList_app1 (cs := #[.int .i64 (k : Int)]) rfl (.tmp 62) (.tmp 64) 26 rfl sInt HS3.out 1 (n := i) rfl rfl rfl (by simp) rfl rfl (by omega) ?_
               intro A4 c4 w4 hS4 hC4
               obtain ⟨m6, m7, m8, m9⟩ := hS4.rules 5 (g := gl) (t := 26) rfl
               (have m10 := (m6 0).trans (show _ = some (.slice Al i cl) from rfl))
               (have HS9 := hide (hS4.set_ 5 (g := gl) rfl 0 (.slice A4 (i + 1) c4)))
               clear hS4 hC4 m6 m9 l7 l8 l10))
          go_roundw
          case rel => exact ⟨i + 1, k + 1, A3, c3, A4, c4, by omega, by go_num, rfl, hide (by rw [HLW.out]; simp [HN.out]), by rw [HLW.out]; dsimp only; rw [nts_snoc, nts_snoc, HN.out]; exact HS9.out⟩
          case measure => simp [intOf]; omega
    · obtain rfl : i = nO := by omega
      obtain ⟨⟨firsts, lot⟩, hF⟩ : ∃ s, lotN ap i = s := ⟨_, rfl⟩
      rw [hF] at hS hl1 hl2 hl3 HN
      dsimp only at hS hl1 hl2 hl3 HN
      have HF := hide hF
      have hn24 : n ≤ 24 := by rw [← HN.out]; omega
      obtain ⟨g1, g2, g3, g4⟩ := hS.rules 3 (g := w.heap.size) (t := 25) rfl
      have g5 := (g1 0).trans (show _ = some (.slice AO i cO) from rfl)
      have g6 := (g1 1).trans (show _ = some (.slice AR nR cR) from rfl)
      have C6 := hide (sturn_any wr gl AR Al nR cR i cl roots lot (by omega) (HRR.out.below hS.below_) (hS.rd_ 1 rfl) (hS.get 5 rfl) HOK.out.vr)
      have HS := hide hS
      have HL3 := hide hl3
      have HL1 := hide hl1
      clear hS hl1 hl2 hl3 g1 g4 hF
      go_wp2_with fail
      refine C6.out.mono ?_
      rintro e w7 ⟨A7, c7, rfl, hS7⟩
      obtain ⟨gO, hgO⟩ : ∃ x, w7.heap.size = x := ⟨_, rfl⟩
      have hS8 := (HS.out.call0 hS7).blkAt 25 #[.slice none 0 0, .slice A7 nR c7] hgO
      have HS8 := hide (obs_nil (hS8.nilRow0 50 1))
      clear hS7 hS8 HS C6 g2 g3 g5 g6
      go_wp2_with fail
      go_loopw [18, 75] (fun _ s75 wx => ∃ (k : Nat) (T : List Ob) (Ao : Option Addr) (co : Nat), k ≤ n ∧ s75 = .int .i64 (k : Int) ∧ Hid (T.map Ob.fields = outF gs lot (firsts.take k)) ∧
        Sep No w wx [obsI T, rowI 50 1 Ao k co (T.map Ob.val), rowI 48 2 A7 nR c7 (vals (roots.map (turnV lot))), rowI 3 1 A n c (nts firsts), rowI 3 1 Al i cl (nts lot), pmI bm N (knD gs i nn), blkI w.heap.size 25 #[.slice AO i cO, .slice AR nR cR], blkI (w.heap.size + 1) 25 #[.slice none 0 0, .slice none 0 0], blkI gl 26 #[.slice Al i cl], blkI gO 25 #[.slice Ao k co, .slice A7 nR c7]]) (fun _ s _ => n - (intOf s).toNat)
      case atStart => exact ⟨0, [], none, 0, by omega, rfl, rfl, HS8.out⟩
      case round =>
        clear HS8
        obtain ⟨k, T, Ao, co, hk, rfl, HT, hS⟩ := hrel
        by_cases hkn : k < n
        · have hkl : k < firsts.length := by rw [HN.out]; exact hkn
          obtain ⟨ad, rfl⟩ := nts_some (hS.get 3 rfl) (by omega)
          obtain ⟨x1, x2⟩ := nts_at (hS.get 3 rfl) hkn hkl
          have hf := HL3.out _ (List.getElem_mem hkl)
          have HTK := hide (List.take_succ_eq_append_getElem hkl)
          obtain ⟨f, hfe⟩ : ∃ f, firsts[k] = f := ⟨_, rfl⟩
          rw [hfe] at x1 hf HTK
          obtain ⟨ado, o, hom, hA, had, hvo, hr1, hg1, hn1, hl1⟩ := ob_at3 (HOO.out.below hS.below_) HOK.out.fl hf
          subst hA
          have hc1 := ob_cell (HOO.out.below hS.below_) hf hvo
          rw [HGS.out] at hg1
          obtain ⟨g1, g2, g3, g4⟩ := hS.rules 6 (g := w.heap.size) (t := 25) rfl
          have g5 := (g1 0).trans (show _ = some (.slice (some ado) i cO) from rfl)
          obtain ⟨h1, h2, h3, h4⟩ := hS.rules 9 (g := gO) (t := 25) rfl
          have h5 := (h1 0).trans (show _ = some (.slice Ao k co) from rfl)
          have hSd := hS.drew
          have C8 := hide (sturn_any wr.drew gl o.A Al o.n o.c i cl o.fields lot (by omega) (hr1.keep (Nat.le_refl _) (fun _ _ _ => rfl)) (hSd.rd_ 4 rfl) (hSd.get 8 rfl) (HOK.out.vg o.fields (List.mem_map.2 ⟨o, hom, rfl⟩)))
          have HG := hide hg1
          have HS := hide hS
          have hmx : Try.prog.follows .mixedOrders = true := by kernel_rfl
          obtain ⟨oA, on, oc, ofs⟩ := o
          dsimp only at C8 hc1 HG hn1 hvo
          have HVO := hide hvo
          clear hvo
          have hi0 : (0 : Int) ≤ (f : Int) := by omega
          have hi1 : (f : Int) < (i : Int) := by omega
          clear hS hSd hr1 hg1 hl1 hom g1 g4 h1 h4 hfe
          go_wp2_with fail
          refine wp_region_z 14 (fun X => X.cell? ⟨w.heap.size, 0, none⟩ = some (.slice (some ado) i cO) ∧ X.cell? ⟨gO, 0, none⟩ = some (.slice Ao k co) ∧ X.cell? (ado.add f) = some (.slice oA on oc)) hmx ?_
          refine wpAnyZ_takes (by kernel_rfl) (fun _ _ _ _ _ h => h) ?_ (fuel := 6) [0, 1, 2, 3, 4, 5, 6, 7, 8] _ _ (Clo.start _) (by kernel_rfl) ?_
          · exact ⟨g5, h5, hc1⟩
          · iterate 9
              refine wpTake_cons (v := ?_) (by rfl) (by rfl) (fun wS hwS => ?_) ?_
              rotate_left 1
              · (try dsimp only at hwS)
                obtain ⟨v1, v2, v3⟩ := hwS
                go_simp
                with_reducible rfl
              try simp only [Act.put, List.setIfInBounds_toArray, List.set_cons_zero, List.set_cons_succ]
            refine wpTake_nil ?_
            refine wpAnyZ_one (i := 9) (by kernel_rfl) rfl (fun K9 hK9 => ?_)
            go_simp
            refine C8.out.mono ?_
            rintro e w8 ⟨A8, c8, rfl, hS8⟩
            have hS9 := HS.out.drew.call0 hS8
            obtain ⟨g1, g2', g3', g4⟩ := hS9.rules 7 (g := w.heap.size) (t := 25) rfl
            have g6 := (g1 0).trans (show _ = some (.slice (some ado) i cO) from rfl)
            obtain ⟨h1, h2', h3', h4⟩ := hS9.rules 10 (g := gO) (t := 25) rfl
            have h6 := (h1 0).trans (show _ = some (.slice Ao k co) from rfl)
            have hc2 : w8.cell? (ado.add f) = some (.slice oA on oc) := cell_later hS8.below_ (show wr.drew.cell? (ado.add f) = some (.slice oA on oc) from hc1)
            refine hK9.out _ _ (fun _ => ⟨g6, h6, hc2⟩) ?_
            clear hK9 K9 C8 hS8
            refine wpAnyZ_one (i := 10) (by kernel_rfl) rfl (fun K9 hK9 => ?_)
            go_simp
            refine hK9.out _ _ (fun _ => ⟨g6, h6, hc2⟩) ?_
            clear hK9 K9
            refine wpAnyZ_one (i := 11) (by kernel_rfl) rfl (fun K9 hK9 => ?_)
            go_simp
            have hSx := hS9.alloc (.cells #[.slice A8 on c8] 50)
            refine hK9.out _ _ (fun _ => ⟨((hSx.rules 7 (g := w.heap.size) (t := 25) rfl).1 0).trans rfl, ((hSx.rules 10 (g := gO) (t := 25) rfl).1 0).trans rfl, cell_later ((Below.refl _ w8).alloc (Nat.le_refl _) _) hc2⟩) ?_
            clear hK9 K9 hSx
            refine wpAnyZ_one (i := 12) (by kernel_rfl) rfl (fun K9 hK9 => ?_)
            refine step_app1 (cs := #[.slice A8 on c8]) rfl (.tmp 80) (.tmp 90) 22 rfl (F := No) (W := w) sObj (items := _ :: _ :: _ :: _ :: _ :: _ :: _ :: _ :: _ :: _ :: _) hS9 2 (n := k) rfl rfl rfl (by simp) rfl rfl (by omega) ?_
            intro A6 c6 w6 hS6 hC6
            obtain ⟨u1, u2, u3, -⟩ := hS6.rules 10 (g := gO) (t := 25) rfl
            have u5 := (u1 0).trans (show _ = some (.slice Ao k co) from rfl)
            have u6 := ((hS6.rules 7 (g := w.heap.size) (t := 25) rfl).1 0).trans (show _ = some (.slice (some ado) i cO) from rfl)
            have hc3 := ob_cell (HOO.out.below hS6.below_) hf HVO.out
            refine hK9.out _ _ (fun _ => ⟨u6, u5, hc3⟩) ?_
            clear hK9 K9
            refine wpAnyZ_one (i := 13) (by kernel_rfl) rfl (fun K9 hK9 => ?_)
            go_simp
            refine hK9.out _ _ (fun _ => ⟨u6, u5, hc3⟩) ?_
            clear hK9 K9
            refine wpAnyZ_one (i := 14) (by kernel_rfl) rfl (fun K9 hK9 => ?_)
            go_simp
            refine hK9.out _ _ (fun h => absurd rfl h) ?_
            clear hK9 K9
            refine wpAnyZ_done (by kernel_rfl) ?_
            have hF := hS6.set_ 10 (g := gO) (t := 25) rfl 0 (.slice A6 (k + 1) c6)
            have HF := hide (obs_join hF)
            have HT2 := hide (show (T ++ [(⟨A8, on, c8, ofs.map (turnV lot)⟩ : Ob)]).map Ob.fields = outF gs lot (firsts.take (k + 1)) from by
              rw [HTK.out, outF_snoc, List.map_append, HT.out, HG.out]; rfl)
            clear hS6 hC6 hF u1 u2 u3 u5 u6 hc3 hc2 g6 h6
            go_wp2_with fail
            go_roundw
            case rel => exact ⟨k + 1, T ++ [⟨A8, on, c8, ofs.map (turnV lot)⟩], A6, c6, by omega, by go_num, HT2, by rw [vals_snoc_ob]; exact HF.out⟩
            case measure => simp [intOf]; omega
        · obtain rfl : k = n := by omega
          rw [List.take_of_length_le (by rw [HN.out]; omega)] at HT
          have HS := hide hS
          clear hS
          obtain ⟨h1, h2, h3, h4⟩ := HS.out.rules 9 (g := gO) (t := 25) rfl
          have h5 := (h1 0).trans (show _ = some (.slice Ao k co) from rfl)
          have h6 := (h1 1).trans (show _ = some (.slice A7 nR c7) from rfl)
          obtain ⟨g1, g2, g3, g4⟩ := HS.out.rules 7 (g := w.heap.size + 1) (t := 25) rfl
          have g5 := (g1 0).trans (show _ = some (.slice none 0 0) from rfl)
          have g6 := (g1 1).trans (show _ = some (.slice none 0 0) from rfl)
          obtain ⟨l1, l2, l3, l4⟩ := HS.out.rules 8 (g := gl) (t := 26) rfl
          have l5 := (l1 0).trans (show _ = some (.slice Al i cl) from rfl)
          have hmx : Try.prog.follows .mixedOrders = true := by kernel_rfl
          clear h1 h4 g1 g4 l1 l4
          go_wp2_with fail
          have hne : gl ≠ w.heap.size + 1 := fun h => HS.out.other (a := 8) (b := 7) rfl rfl (by decide) gl rfl h
          have hne2 : w.heap.size + 1 ≠ gl := fun h => hne h.symm
          go_region
          all_goals
            have hE := ((HS.out.set_ 7 (g := w.heap.size + 1) (t := 25) rfl 0 (.slice Ao k co)).set_ 7 (g := w.heap.size + 1) (t := 25) rfl 1 (.slice A7 nR c7)).drew
            obtain ⟨b1, b2, b3, b4⟩ := hE.rules 7 (g := w.heap.size + 1) (t := 25) rfl
            have b5 := (b1 0).trans (show _ = some (.slice Ao k co) from rfl)
            have b6 := (b1 1).trans (show _ = some (.slice A7 nR c7) from rfl)
            have HB9 := hide hE.below_
            have HG9 := hide (graphRd_made hE)
            have HR9 := hide (hE.rd 4 rfl)
            clear hE b1 b2 b3 b4 HS h2 h3 h5 h6 g2 g3 g5 g6 l2 l3 l5
            obtain ⟨W9, hW9⟩ : ∃ W9, (((wr.setCell ⟨w.heap.size + 1, 0, none⟩ (.slice Ao k co)).setCell ⟨w.heap.size + 1, 1, none⟩ (.slice A7 nR c7)).drew) = W9 := ⟨_, rfl⟩
            rw [hW9] at b5 b6 HB9 HG9 HR9 ⊢
            go_wp2_with fail
            refine bodyPost_ret (v := .tuple #[.agg #[.slice Ao k co, .slice A7 nR c7], .slice Al i cl, .int .i64 0]) (by simp [results, Try.results9, go_sem, b5, b6]) rfl ⟨_, Al, cl, rfl, HB9.out, by rw [HF.out, ← HT.out]; exact HG9.out, by rw [HF.out]; exact HR9.out⟩
end Go.Proofs.Ytikaaekhghcodaa
