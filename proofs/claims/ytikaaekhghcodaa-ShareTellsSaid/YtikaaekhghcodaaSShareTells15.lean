/- Share: the reference's. graph: the reference's Values and Graphs, at equals. -/
import Derived.Test.YtikaaekhghcodaaSShareTells10
import Derived.Test.YtikaaekhghcodaaSShareTells14
import Derived.Test.YtikaaekhghcodaaSShareTells5
import Derived.Test.YtikaaekhghcodaaSShareTells4
set_option linter.unusedSimpArgs false
set_option linter.unusedVariables false
namespace Go.Proofs.Ytikaaekhghcodaa
open Go.RowKit
set_option maxRecDepth 100000 in
set_option maxHeartbeats 6400000 in
theorem rshare_ok (w : World) (AO AR : Option Addr) (nO cO nR cR : Nat) (obs : List Ob) (roots : List Val) (ok : GOk nO nR obs roots) (hO : ObsRd w (fun _ => True) AO nO obs) (hR : Rd w (fun _ => True) 2 AR nR (vals roots)) (gs : List (List Val)) (hgs : obs.map Ob.fields = gs) :
    Calls Try.prog 11 #[.agg #[.slice AO nO cO, .slice AR nR cR]] w fun e w' => ∃ v Al cl, e = .returned (.tuple #[v, .slice Al nO cl]) ∧ Below w.heap.size w w' ∧
      GraphRd w' (fun g => w.heap.size ≤ g) v (outF gs (lotN (apR gs) nO).2 (lotN (apR gs) nO).1) (roots.map (turnV (lotN (apR gs) nO).2)) ∧ Rd w' (fun g => w.heap.size ≤ g) 1 Al nO (nts (lotN (apR gs) nO).2) := by
  have hS0 := ((Sep.nil No w).blkAt 25 #[.slice AO nO cO, .slice AR nR cR] rfl).blkAt 25 #[.slice none 0 0, .slice none 0 0] (g := w.heap.size + 1) (by simp)
  have HS0 := hide ((hS0.nilRow0 3 1).nilRow0 3 1)
  have HOK := hide ok
  have HOO := hide hO
  have HRR := hide hR
  have HGS := hide hgs
  have hnO := ok.nO_
  have hnR := ok.nR_
  obtain ⟨ap, hap⟩ : ∃ ap, apR gs = ap := ⟨_, rfl⟩
  rw [hap]
  have HAP := hide (show ∀ f i, (toldR gs (f, i)).2 = ap f i from fun f i => by rw [← hap]; rfl)
  have hmx : Try.prog.follows .mixedOrders = true := by kernel_rfl
  clear hS0 ok hO hR hgs hap
  go_enter Try.func11, Try.ntmps11
  go_wp2_with fail
  go_loopw [4, 5, 6, 7, 8, 9, 10] (fun s4 s5 s6 _ _ _ _ wr => ∃ (i n : Nat) (A : Option Addr) (c : Nat) (Al : Option Addr) (cl : Nat), i ≤ nO ∧ s6 = .int .i64 (i : Int) ∧ s4 = .slice A n c ∧ s5 = .slice Al i cl ∧ Hid ((lotN ap i).1.length = n) ∧
    Sep No w wr [rowI 3 1 A n c (nts (lotN ap i).1), rowI 3 1 Al i cl (nts (lotN ap i).2), blkI w.heap.size 25 #[.slice AO nO cO, .slice AR nR cR], blkI (w.heap.size + 1) 25 #[.slice none 0 0, .slice none 0 0]]) (fun _ _ s _ _ _ _ _ => nO - (intOf s).toNat)
  case atStart => exact ⟨0, 0, none, 0, none, 0, by omega, rfl, rfl, rfl, rfl, HS0.out⟩
  case round =>
    clear HS0
    obtain ⟨i, n, A, c, Al, cl, hi, rfl, rfl, rfl, HN, hS⟩ := hrel
    obtain ⟨hl1, hl2, hl3⟩ := lotN_ok ap i
    obtain ⟨g1, g2, g3, g4⟩ := hS.rules 2 (g := w.heap.size) (t := 25) rfl
    have g5 := (g1 0).trans (show _ = some (.slice AO nO cO) from rfl)
    have g6 := (g1 1).trans (show _ = some (.slice AR nR cR) from rfl)
    by_cases hlt : i < nO
    · have hn24 : n ≤ 24 := by rw [← HN.out]; omega
      have HL3 := hide hl3
      have HS := hide hS
      clear hS hl1 hl2 hl3 g1 g4
      go_wp2_with fail
      go_loopw [7, 8, 9, 10] (fun s7 s8 _ _ wx => ∃ (k : Nat) (a : Int), k ≤ n ∧ s7 = .int .i64 a ∧ s8 = .int .i64 (k : Int) ∧ Hid ((a = -1 ∧ ∀ (j : Nat) (hj : j < (lotN ap i).1.length), j < k → ap (lotN ap i).1[j] i = true) ∨ (∃ j : Nat, a = j ∧ k = j + 1 ∧ lotN ap (i + 1) = ((lotN ap i).1, (lotN ap i).2 ++ [j]))) ∧ Below wr.heap.size wr wx) (fun _ s _ _ _ => n - (intOf s).toNat)
      case atStart => exact ⟨0, -1, by omega, rfl, rfl, hide (.inl ⟨rfl, fun j _ h => by omega⟩), Below.refl _ _⟩
      case round =>
        obtain ⟨k, a, hk, rfl, rfl, HST, hB⟩ := hrel
        have hSx := HS.out.below hB
        have HB := hide hB
        clear hB
        rcases HST.out with ⟨ha, hno⟩ | ⟨j, ha, hkj, hlo⟩
        · subst ha
          have HNO := hide hno
          clear hno HST
          by_cases hkn : k < n
          · have hkl : k < (lotN ap i).1.length := by rw [HN.out]; exact hkn
            obtain ⟨ad, rfl⟩ := nts_some (hSx.get 0 rfl) (by omega)
            obtain ⟨x1, x2⟩ := nts_at (hSx.get 0 rfl) hkn hkl
            have hf := HL3.out _ (List.getElem_mem hkl)
            obtain ⟨r, hr⟩ : ∃ r, ap (lotN ap i).1[k] i = r := ⟨_, rfl⟩
            have HR := hide hr
            have HTV := hide (HAP.out (lotN ap i).1[k] i)
            rw [hr] at HTV
            obtain ⟨f, hfe⟩ : ∃ f, (lotN ap i).1[k] = f := ⟨_, rfl⟩
            rw [hfe] at x1 hf HTV
            have C := hide (rtold_any wr.drew AO AR nO cO nR cR obs roots HOK.out (HOO.out.below hSx.drew.below_) f i (by omega) hlt)
            rw [HGS.out, HTV.out] at C
            obtain ⟨z1, z2, z3, z4⟩ := hSx.rules 2 (g := w.heap.size) (t := 25) rfl
            have z5 := (z1 0).trans (show _ = some (.slice AO nO cO) from rfl)
            have z6 := (z1 1).trans (show _ = some (.slice AR nR cR) from rfl)
            have hi0 : (0 : Int) ≤ (k : Int) := by omega
            have hi1 : (k : Int) < (n : Int) := by omega
            have HSx := hide hSx
            clear hSx hr hfe HTV z1 z4 g2 g3 g5 g6
            cases r with
            | true =>
              have HNO2 := hide (show ∀ (j : Nat) (hj : j < (lotN ap i).1.length), j < k + 1 → ap (lotN ap i).1[j] i = true from fun j hj h => by
                rcases Nat.lt_or_ge j k with h5 | h5
                · exact HNO.out j hj h5
                · obtain rfl : j = k := by omega
                  exact HR.out)
              clear HNO HR
              go_wp2_with fail
              go_region_law (first
                | (try go_simp
                   go_at_call 7
                   refine C.out.mono ?_
                   rintro e w5 ⟨A5, n5, c5, rfl, hS5⟩
                   (have HB5 := hide (HB.out.drew.trans (hS5.below_.mono HB.out.drew.size)))
                   clear hS5))
              all_goals
                go_wp2_with fail
                go_roundw
                case rel => exact ⟨k + 1, -1, by omega, rfl, by go_num, hide (.inl ⟨rfl, HNO2.out⟩), HB5.out⟩
                case measure => simp [intOf]; omega
            | false =>
              have HLO := hide (lot_old hkl HNO.out HR.out)
              clear HNO HR
              go_wp2_with fail
              go_region_law (first
                | (try go_simp
                   go_at_call 7
                   refine C.out.mono ?_
                   rintro e w5 ⟨A5, n5, c5, rfl, hS5⟩
                   (have HB5 := hide (HB.out.drew.trans (hS5.below_.mono HB.out.drew.size)))
                   clear hS5))
              all_goals
                go_wp2_with fail
                go_roundw
                case rel => exact ⟨k + 1, (k : Int), by omega, rfl, by go_num, hide (.inr ⟨k, rfl, rfl, HLO.out⟩), HB5.out⟩
                case measure => simp [intOf]; omega
          · obtain rfl : k = n := by omega
            have HLW := hide (lot_new (by rw [HN.out]; omega) HNO.out)
            have HSx := hide hSx
            clear HNO hSx
            go_wp2_with (first
              | (at_builtin
                 refine wpList_app1 (cs := #[.int .i64 (i : Int)]) rfl (.tmp 48) (.tmp 50) 26 rfl sInt HSx.out 0 (n := k) rfl rfl rfl (by simp) rfl rfl (by omega) ?_
                 intro A3 c3 w3 hS3 hC3
                 (have HS3 := hide hS3)
                 clear hS3 hC3)
              | (at_builtin
                 refine wpList_app1 (cs := #[.int .i64 (k : Int)]) rfl (.tmp 52) (.tmp 54) 26 rfl sInt HS3.out 1 (n := i) rfl rfl rfl (by simp) rfl rfl (by omega) ?_
                 intro A4 c4 w4 hS4 hC4
                 (have HS9 := hide hS4)
                 clear hS4 hC4))
            go_roundw
            case rel => exact ⟨i + 1, k + 1, A3, c3, A4, c4, by omega, by go_num, rfl, rfl, hide (by rw [HLW.out]; simp [HN.out]), by rw [HLW.out]; dsimp only; rw [nts_snoc, nts_snoc, HN.out]; exact HS9.out⟩
            case measure => simp [intOf]; omega
        · subst ha
          have HLO := hide hlo
          have HSx := hide hSx
          have tj : ¬ (j : Int) < 0 := by omega
          clear hlo HST hSx
          by_cases hkn : k < n
          all_goals
            go_wp2_with (at_builtin
                         refine wpList_app1 (cs := #[.int .i64 (j : Int)]) rfl (.tmp 52) (.tmp 54) 26 rfl sInt HSx.out 1 (n := i) rfl rfl rfl (by simp) rfl rfl (by omega) ?_
                         intro A4 c4 w4 hS4 hC4
                         (have HS9 := hide hS4)
                         clear hS4 hC4)
            go_roundw
            case rel => exact ⟨i + 1, n, A, c, A4, c4, by omega, by go_num, rfl, rfl, by rw [HLO.out]; exact HN.out, by rw [HLO.out]; dsimp only; rw [nts_snoc]; exact HS9.out⟩
            case measure => simp [intOf]; omega
    · obtain rfl : i = nO := by omega
      obtain ⟨⟨firsts, lot⟩, hF⟩ : ∃ s, lotN ap i = s := ⟨_, rfl⟩
      rw [hF] at hS hl1 hl2 hl3 HN
      dsimp only at hS hl1 hl2 hl3 HN
      have HF := hide hF
      have hn24 : n ≤ 24 := by rw [← HN.out]; omega
      have C6 := hide (lots_any wr AR Al nR cR i cl roots lot (by omega) (HRR.out.below hS.below_) (hS.rd_ 1 rfl) HOK.out.vr)
      have HS := hide hS
      have HL3 := hide hl3
      have HL1 := hide hl1
      clear hS hl1 hl2 hl3 g1 g4 hF
      go_wp2_with fail
      refine C6.out.mono ?_
      rintro e w7 ⟨A7, c7, rfl, hS7⟩
      obtain ⟨gO, hgO⟩ : ∃ x, w7.heap.size = x := ⟨_, rfl⟩
      have hS8 := (HS.out.call0 hS7).blkAt 25 #[.slice none 0 0, .slice A7 nR c7] hgO
      have HS8 := hide (obs_nil (hS8.nilRow0 50 1))
      clear hS7 hS8 HS C6 g2 g3 g5 g6
      go_wp2_with fail
      go_loopw [13, 63] (fun _ s75 wx => ∃ (k : Nat) (T : List Ob) (Ao : Option Addr) (co : Nat), k ≤ n ∧ s75 = .int .i64 (k : Int) ∧ Hid (T.map Ob.fields = outF gs lot (firsts.take k)) ∧
        Sep No w wx [obsI T, rowI 50 1 Ao k co (T.map Ob.val), rowI 48 2 A7 nR c7 (vals (roots.map (turnV lot))), rowI 3 1 A n c (nts firsts), rowI 3 1 Al i cl (nts lot), blkI w.heap.size 25 #[.slice AO i cO, .slice AR nR cR], blkI (w.heap.size + 1) 25 #[.slice none 0 0, .slice none 0 0], blkI gO 25 #[.slice Ao k co, .slice A7 nR c7]]) (fun _ s _ => n - (intOf s).toNat)
      case atStart => exact ⟨0, [], none, 0, by omega, rfl, rfl, HS8.out⟩
      case round =>
        clear HS8
        obtain ⟨k, T, Ao, co, hk, rfl, HT, hS⟩ := hrel
        by_cases hkn : k < n
        · have hkl : k < firsts.length := by rw [HN.out]; exact hkn
          obtain ⟨ad, rfl⟩ := nts_some (hS.get 3 rfl) (by omega)
          obtain ⟨x1, x2⟩ := nts_at (hS.get 3 rfl) hkn hkl
          have hf := HL3.out _ (List.getElem_mem hkl)
          have HTK := hide (List.take_succ_eq_append_getElem hkl)
          obtain ⟨f, hfe⟩ : ∃ f, firsts[k] = f := ⟨_, rfl⟩
          rw [hfe] at x1 hf HTK
          obtain ⟨ado, o, hom, hA, had, hvo, hr1, hg1, hn1, hl1⟩ := ob_at3 (HOO.out.below hS.below_) HOK.out.fl hf
          subst hA
          have hc1 := ob_cell (HOO.out.below hS.below_) hf hvo
          rw [HGS.out] at hg1
          obtain ⟨g1, g2, g3, g4⟩ := hS.rules 5 (g := w.heap.size) (t := 25) rfl
          have g5 := (g1 0).trans (show _ = some (.slice (some ado) i cO) from rfl)
          obtain ⟨h1, h2, h3, h4⟩ := hS.rules 7 (g := gO) (t := 25) rfl
          have h5 := (h1 0).trans (show _ = some (.slice Ao k co) from rfl)
          have hSd := hS.drew
          have C8 := hide (lots_any wr.drew o.A Al o.n o.c i cl o.fields lot (by omega) (hr1.keep (Nat.le_refl _) (fun _ _ _ => rfl)) (hSd.rd_ 4 rfl) (HOK.out.vg o.fields (List.mem_map.2 ⟨o, hom, rfl⟩)))
          have HG := hide hg1
          have HS := hide hS
          have hmx : Try.prog.follows .mixedOrders = true := by kernel_rfl
          obtain ⟨oA, on, oc, ofs⟩ := o
          dsimp only at C8 hc1 HG hn1 hvo
          have HVO := hide hvo
          clear hvo
          have hi0 : (0 : Int) ≤ (f : Int) := by omega
          have hi1 : (f : Int) < (i : Int) := by omega
          clear hS hSd hr1 hg1 hl1 hom g1 g4 h1 h4 hfe
          go_wp2_with fail
          refine wp_region_z 14 (fun X => X.cell? ⟨w.heap.size, 0, none⟩ = some (.slice (some ado) i cO) ∧ X.cell? ⟨gO, 0, none⟩ = some (.slice Ao k co) ∧ X.cell? (ado.add f) = some (.slice oA on oc)) hmx ?_
          refine wpAnyZ_takes (by kernel_rfl) (fun _ _ _ _ _ h => h) ?_ (fuel := 6) [0, 1, 2, 3, 4, 5, 6, 7, 8] _ _ (Clo.start _) (by kernel_rfl) ?_
          · exact ⟨g5, h5, hc1⟩
          · iterate 9
              refine wpTake_cons (v := ?_) (by rfl) (by rfl) (fun wS hwS => ?_) ?_
              rotate_left 1
              · (try dsimp only at hwS)
                obtain ⟨v1, v2, v3⟩ := hwS
                go_simp
                with_reducible rfl
              try simp only [Act.put, List.setIfInBounds_toArray, List.set_cons_zero, List.set_cons_succ]
            refine wpTake_nil ?_
            refine wpAnyZ_one (i := 9) (by kernel_rfl) rfl (fun K9 hK9 => ?_)
            go_simp
            refine C8.out.mono ?_
            rintro e w8 ⟨A8, c8, rfl, hS8⟩
            have hS9 := HS.out.drew.call0 hS8
            obtain ⟨g1, g2', g3', g4⟩ := hS9.rules 6 (g := w.heap.size) (t := 25) rfl
            have g6 := (g1 0).trans (show _ = some (.slice (some ado) i cO) from rfl)
            obtain ⟨h1, h2', h3', h4⟩ := hS9.rules 8 (g := gO) (t := 25) rfl
            have h6 := (h1 0).trans (show _ = some (.slice Ao k co) from rfl)
            have hc2 : w8.cell? (ado.add f) = some (.slice oA on oc) := cell_later hS8.below_ (show wr.drew.cell? (ado.add f) = some (.slice oA on oc) from hc1)
            refine hK9.out _ _ (fun _ => ⟨g6, h6, hc2⟩) ?_
            clear hK9 K9 C8 hS8
            refine wpAnyZ_one (i := 10) (by kernel_rfl) rfl (fun K9 hK9 => ?_)
            go_simp
            refine hK9.out _ _ (fun _ => ⟨g6, h6, hc2⟩) ?_
            clear hK9 K9
            refine wpAnyZ_one (i := 11) (by kernel_rfl) rfl (fun K9 hK9 => ?_)
            go_simp
            have hSx := hS9.alloc (.cells #[.slice A8 on c8] 50)
            refine hK9.out _ _ (fun _ => ⟨((hSx.rules 6 (g := w.heap.size) (t := 25) rfl).1 0).trans rfl, ((hSx.rules 8 (g := gO) (t := 25) rfl).1 0).trans rfl, cell_later ((Below.refl _ w8).alloc (Nat.le_refl _) _) hc2⟩) ?_
            clear hK9 K9 hSx
            refine wpAnyZ_one (i := 12) (by kernel_rfl) rfl (fun K9 hK9 => ?_)
            refine step_app1 (cs := #[.slice A8 on c8]) rfl (.tmp 68) (.tmp 78) 22 rfl (F := No) (W := w) sObj (items := _ :: _ :: _ :: _ :: _ :: _ :: _ :: _ :: _) hS9 2 (n := k) rfl rfl rfl (by simp) rfl rfl (by omega) ?_
            intro A6 c6 w6 hS6 hC6
            obtain ⟨u1, u2, u3, -⟩ := hS6.rules 8 (g := gO) (t := 25) rfl
            have u5 := (u1 0).trans (show _ = some (.slice Ao k co) from rfl)
            have u6 := ((hS6.rules 6 (g := w.heap.size) (t := 25) rfl).1 0).trans (show _ = some (.slice (some ado) i cO) from rfl)
            have hc3 := ob_cell (HOO.out.below hS6.below_) hf HVO.out
            refine hK9.out _ _ (fun _ => ⟨u6, u5, hc3⟩) ?_
            clear hK9 K9
            refine wpAnyZ_one (i := 13) (by kernel_rfl) rfl (fun K9 hK9 => ?_)
            go_simp
            refine hK9.out _ _ (fun _ => ⟨u6, u5, hc3⟩) ?_
            clear hK9 K9
            refine wpAnyZ_one (i := 14) (by kernel_rfl) rfl (fun K9 hK9 => ?_)
            go_simp
            refine hK9.out _ _ (fun h => absurd rfl h) ?_
            clear hK9 K9
            refine wpAnyZ_done (by kernel_rfl) ?_
            have hF := hS6.set_ 8 (g := gO) (t := 25) rfl 0 (.slice A6 (k + 1) c6)
            have HF := hide (obs_join hF)
            have HT2 := hide (show (T ++ [(⟨A8, on, c8, ofs.map (turnV lot)⟩ : Ob)]).map Ob.fields = outF gs lot (firsts.take (k + 1)) from by
              rw [HTK.out, outF_snoc, List.map_append, HT.out, HG.out]; rfl)
            clear hS6 hC6 hF u1 u2 u3 u5 u6 hc3 hc2 g6 h6
            go_wp2_with fail
            go_roundw
            case rel => exact ⟨k + 1, T ++ [⟨A8, on, c8, ofs.map (turnV lot)⟩], A6, c6, by omega, by go_num, HT2, by rw [vals_snoc_ob]; exact HF.out⟩
            case measure => simp [intOf]; omega
        · obtain rfl : k = n := by omega
          rw [List.take_of_length_le (by rw [HN.out]; omega)] at HT
          have HS := hide hS
          clear hS
          obtain ⟨h1, h2, h3, h4⟩ := HS.out.rules 7 (g := gO) (t := 25) rfl
          have h5 := (h1 0).trans (show _ = some (.slice Ao k co) from rfl)
          have h6 := (h1 1).trans (show _ = some (.slice A7 nR c7) from rfl)
          obtain ⟨g1, g2, g3, g4⟩ := HS.out.rules 6 (g := w.heap.size + 1) (t := 25) rfl
          have g5 := (g1 0).trans (show _ = some (.slice none 0 0) from rfl)
          have g6 := (g1 1).trans (show _ = some (.slice none 0 0) from rfl)
          clear h1 h4 g1 g4
          go_wp2_with fail
          have hE := (HS.out.set_ 6 (g := w.heap.size + 1) (t := 25) rfl 0 (.slice Ao k co)).set_ 6 (g := w.heap.size + 1) (t := 25) rfl 1 (.slice A7 nR c7)
          obtain ⟨b1, b2, b3, b4⟩ := hE.rules 6 (g := w.heap.size + 1) (t := 25) rfl
          have b5 := (b1 0).trans (show _ = some (.slice Ao k co) from rfl)
          have b6 := (b1 1).trans (show _ = some (.slice A7 nR c7) from rfl)
          have HB9 := hide hE.below_
          have HG9 := hide (graphRd_made hE)
          have HR9 := hide (hE.rd 4 rfl)
          clear hE b1 b2 b3 b4 HS h2 h3 h5 h6 g2 g3 g5 g6
          obtain ⟨W9, hW9⟩ : ∃ W9, ((wr.setCell ⟨w.heap.size + 1, 0, none⟩ (.slice Ao k co)).setCell ⟨w.heap.size + 1, 1, none⟩ (.slice A7 nR c7)) = W9 := ⟨_, rfl⟩
          rw [hW9] at b5 b6 HB9 HG9 HR9 ⊢
          refine bodyPost_ret (v := .tuple #[.agg #[.slice Ao k co, .slice A7 nR c7], .slice Al i cl]) (by simp [results, Try.results11, go_sem, b5, b6]) rfl ⟨_, Al, cl, rfl, HB9.out, by rw [HF.out, ← HT.out]; exact HG9.out, by rw [HF.out]; exact HR9.out⟩
end Go.Proofs.Ytikaaekhghcodaa

namespace Go.Proofs.Ytikaaekhghcodaa
open Go.RowKit
set_option maxHeartbeats 800000 in
theorem values_same (w : World) (D D' : Nat → Prop) (A A' : Option Addr) (n c c' : Nat) (xs : List Val) (hn : n ≤ 9223372036854775807)
    (h : Rd w D 2 A n (vals xs)) (h' : Rd w D' 2 A' n (vals xs)) :
    Calls Try.prog 21 #[.slice A n c, .slice A' n c'] w fun e w' => e = .returned (.bool true) ∧ Below w.heap.size w w' := by
  have HL := hide (show xs.length = n by have := h.1; rw [vals_length] at this; omega)
  go_enter Try.func21, Try.ntmps21
  go_wp2_with fail
  go_loopw [5] (fun i wr => ∃ k : Nat, k ≤ n ∧ i = .int .i64 k ∧ Below w.heap.size w wr) (fun i _ => n - (intOf i).toNat)
  case atStart => exact ⟨0, by omega, rfl, Below.refl _ _⟩
  case round =>
    obtain ⟨k, hk, rfl, hB⟩ := hrel
    by_cases hlt : k < n
    · have hkl : k < xs.length := by rw [HL.out]; exact hlt
      obtain ⟨v1, v2⟩ := vals_at xs k hkl
      obtain ⟨ad, hA, _, had, hc, hd⟩ := (h.below hB).atN hlt
      obtain ⟨ad', hA', _, had', hc', hd'⟩ := (h'.below hB).atN hlt
      have e0 := hc _ v1
      have e1 := hc' _ v1
      have d0 := hd 0 _ v2
      have d1 := hd' 0 _ v2
      obtain ⟨⟨b, x⟩, hx⟩ : ∃ x, xs[k] = x := ⟨_, rfl⟩
      rw [hx] at e0 e1 d0 d1
      subst hA hA'
      clear hc hc' hd hd' hx v1 v2
      go_wp2_with fail
      go_quiet (fail)
      go_wp2_with fail
      go_roundw
      case rel => exact ⟨k + 1, by omega, by go_num, below_drewN hB _⟩
      case measure => simp [intOf]; omega
    · go_wp2_with fail
      go_ret
      exact ⟨rfl, hB⟩
set_option maxRecDepth 100000 in
set_option maxHeartbeats 4000000 in
theorem graphs_any (w : World) (D D' : Nat → Prop) (v v' : Value) (fss : List (List Val)) (roots : List Val) (hf : ∀ fs ∈ fss, fs.length ≤ 1000) (hfs : fss.length ≤ 1000) (hr : roots.length ≤ 1000) (h : GraphRd w D v fss roots) (h' : GraphRd w D' v' fss roots) :
    Calls Try.prog 10 #[v, v'] w fun e w' => e = .returned (.bool true) ∧ Below w.heap.size w w' := by
  obtain ⟨A1, n1, c1, A2, n2, c2, obs, rfl, f1, f3, f2⟩ := h.ex
  obtain ⟨B1, m1, d1, B2, m2, d2, obs', rfl, g1, g3, g2⟩ := h'.ex
  have l1 : n1 = fss.length := by rw [← f3, List.length_map]; exact f1.len.symm
  have l2 : m1 = fss.length := by rw [← g3, List.length_map]; exact g1.len.symm
  have k1 : n2 = roots.length := by have := f2.1; rw [vals_length] at this; omega
  have k2 : m2 = roots.length := by have := g2.1; rw [vals_length] at this; omega
  subst k1
  subst l1
  subst l2 k2
  have HF := hide (show ∀ (k : Nat) (hk : k < obs.length) (hk' : k < obs'.length), obs[k].fields = obs'[k].fields ∧ obs[k].fields.length ≤ 1000 by
    intro k hk hk'
    have e : (obs.map Ob.fields)[k]? = (obs'.map Ob.fields)[k]? := by rw [f3, g3]
    rw [List.getElem?_map, List.getElem?_map, List.getElem?_eq_getElem hk, List.getElem?_eq_getElem hk'] at e
    refine ⟨by simpa using e, hf _ ?_⟩
    rw [← f3]
    exact List.mem_map.2 ⟨_, List.getElem_mem hk, rfl⟩)
  have hB0 : Below w.heap.size w ((w.alloc (.cells #[.slice A1 fss.length c1, .slice A2 roots.length c2] 25)).alloc (.cells #[.slice B1 fss.length d1, .slice B2 roots.length d2] 25)) := ((Below.refl _ w).alloc (Nat.le_refl _) _).alloc (by simp) _
  have C1 := hide (values_same _ _ _ A2 B2 roots.length c2 d2 roots (by omega) (f2.below hB0) (g2.below hB0))
  have HB0 := hide hB0
  have b1 := (Blk.new w 25 #[.slice A1 fss.length c1, .slice A2 roots.length c2]).alloc (.cells #[.slice B1 fss.length d1, .slice B2 roots.length d2] 25)
  have b2 := Blk.new (w.alloc (.cells #[.slice A1 fss.length c1, .slice A2 roots.length c2] 25)) 25 #[.slice B1 fss.length d1, .slice B2 roots.length d2]
  rw [World.size_alloc] at b2
  have HB1 := hide b1
  have HB2 := hide b2
  have HL1 := hide f1.len
  have HL2 := hide g1.len
  obtain ⟨N, hN⟩ : ∃ N, fss.length = N := ⟨_, rfl⟩
  rw [hN] at f1 g1 HB1 HB2 HB0 C1 HL1 HL2 hfs ⊢
  clear b1 b2 hB0 f2 g2 f3 g3 h h' hf hN
  go_enter Try.func10, Try.ntmps10
  go_wp2_with fail
  refine C1.out.mono ?_
  rintro e w3 ⟨rfl, hB3⟩
  have hB4 := HB0.out.trans (hB3.mono (by simp; omega))
  have HC1 := hide (HB1.out.below_ hB3)
  have HC2 := hide (HB2.out.below_ hB3)
  have HB4 := hide hB4
  clear C1 HB0 hB3 HB1 HB2 hB4
  go_wp2_with fail
  go_loopw [5] (fun i wr => ∃ k : Nat, k ≤ N ∧ i = .int .i64 k ∧ Below w.heap.size w wr ∧ Blk wr w.heap.size 25 #[.slice A1 N c1, .slice A2 roots.length c2] ∧ Blk wr (w.heap.size + 1) 25 #[.slice B1 N d1, .slice B2 roots.length d2]) (fun i _ => N - (intOf i).toNat)
  case atStart => exact ⟨0, by omega, rfl, HB4.out, HC1.out, HC2.out⟩
  case round =>
    clear HB4 HC1 HC2
    obtain ⟨k, hk, rfl, hB, hG, hG'⟩ := hrel
    obtain ⟨i1, i2, i3⟩ := hG.rules
    obtain ⟨j1, j2, j3⟩ := hG'.rules
    have i4 : wr.cell? ⟨w.heap.size, 0, none⟩ = some (.slice A1 N c1) := by rw [i1]; rfl
    have j4 : wr.cell? ⟨w.heap.size + 1, 0, none⟩ = some (.slice B1 N d1) := by rw [j1]; rfl
    clear i1 j1
    by_cases hlt : k < N
    · have hkl : k < obs.length := by rw [HL1.out]; exact hlt
      have hkl' : k < obs'.length := by rw [HL2.out]; exact hlt
      obtain ⟨ad, hA, _, had, hc⟩ := (f1.below hB).row.at_ hlt
      obtain ⟨ad', hA', _, had', hc'⟩ := (g1.below hB).row.at_ hlt
      have e0 := hc obs[k].val (by simp [List.getElem?_eq_getElem hkl])
      have e1 := hc' obs'[k].val (by simp [List.getElem?_eq_getElem hkl'])
      obtain ⟨hff, hfl⟩ := HF.out k hkl hkl'
      have hE := (f1.below hB).each _ (List.getElem_mem hkl)
      have hE' := (g1.below hB).each _ (List.getElem_mem hkl')
      have hn := f1.flen (List.getElem_mem hkl)
      have hn' := g1.flen (List.getElem_mem hkl')
      obtain ⟨o, ho⟩ : ∃ o, obs[k] = o := ⟨_, rfl⟩
      obtain ⟨o', ho'⟩ : ∃ o, obs'[k] = o := ⟨_, rfl⟩
      rw [ho] at e0 hff hE hn hfl
      rw [ho'] at e1 hff hE' hn'
      rw [← hff] at hE' hn'
      unfold Ob.val at e0 e1
      subst hA hA'
      have hnn : o'.n = o.n := by omega
      rw [hnn] at e1 hE'
      have HE := hide hE
      have HE' := hide hE'
      have hno : o.n ≤ 1000 := by omega
      have HNO := hide hno
      clear hc hc' ho ho' hff hn hn' hnn hfl hE hE' hno
      go_wp2_with fail
      have HBW := hide hB
      have HGW := hide hG
      have HGW' := hide hG'
      go_region_law (first
        | (try go_simp
           go_at_call 21
           refine (values_same wr.drew _ _ o.A o'.A o.n o.c o'.c o.fields (by have := HNO.out; omega) (HE.out.keep (Nat.le_refl _) (fun _ _ _ => rfl)) (HE'.out.keep (Nat.le_refl _) (fun _ _ _ => rfl))).mono ?_
           rintro e w4 ⟨rfl, hB4⟩))
      all_goals
        go_wp2_with fail
        go_roundw
        case rel => exact ⟨k + 1, by omega, by go_num, (HBW.out.drew.trans (hB4.mono HBW.out.size)), HGW.out.drew.below_ hB4, HGW'.out.drew.below_ hB4⟩
        case measure => simp [intOf]; omega
    · go_wp2_with fail
      go_ret
      exact ⟨rfl, hB⟩
end Go.Proofs.Ytikaaekhghcodaa
