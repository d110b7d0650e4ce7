/- The reference of a memory with young and old objects: a script. Arguments that are slices, opened to lists of cells. A graph that comes in, opened. A graph that comes in, opened; its objects' fields lie in slices that are no longer than their room. -/
import Derived.Test.YtjphckfbbiehdaaSGenPlays41
import Derived.Test.YtjphckfbbiehdaaSGenPlays33
import Derived.Test.YtjphckfbbiehdaaSGenPlays0
import Derived.Deep.Slices
import Derived.Deep.Fields
import Derived.ChangeSame
import Derived.Test.YtjphckfbbiehdaaSGenPlays2
set_option linter.unusedSimpArgs false
set_option linter.unusedVariables false
namespace Go.Proofs.Ytjphckfbbiehdaa
open Go.RowKit
theorem gStep_any {Ba Bm : Nat} {t : GaT} {w : World} (hP : (gaI Ba Bm t).P w) (ok : GaOk t) (d : DoV) (room : Nat) : GStepOk Ba Bm t w d room := by
  by_cases h8 : d.k = 8 ∨ d.k = 9
  · exact gStep_clear hP ok d h8 room
  · rcases Int.decEq (rWrong d (absR t.s)) 0 with hw | hw
    · exact gStep_bad hP ok d room (by omega) (by omega) hw
    · by_cases h1 : d.k = 1
      · by_cases hf : 24 ≤ (grRoom room t.a).many true
        · exact gStep_newF hP ok d room h1 hf hw
        · exact gStep_newN hP ok d room h1 hf hw
      · by_cases h4 : d.k = 4
        · exact gStep_put hP ok d room h4 hw
        · exact gStep_other hP ok d room (by omega) (by omega) h1 h4 hw
theorem ga_ok_at {σ : MSt} (hM : MOk σ) (room : Nat) (ds : List DoV) (hn : σ.objs.length ≤ 24) (hd : ds.length ≤ 100) (k : Nat) (hk : k ≤ ds.length) (t : GaT) (h : t.a = (grRun room (ds.take k) (gr0 σ)).2) (hg : t.s.gone.length = t.s.obs.length) : GaOk t := by
  have hs := (gn_run hM room (ds.take k)).2
  rw [← h] at hs
  obtain ⟨hok, hl⟩ := gn_at hM room ds hn hd k hk
  have hm := gnRun_mks room (gn0 σ) (ds.take k)
  have h0 : (gn0 σ).mks.length = 0 := rfl
  have hkl : (ds.take k).length = k := by rw [List.length_take]; omega
  have e1 : t.s.obs.length = (gnRun room (ds.take k) (gn0 σ)).2.objs.length := by
    rw [hs.sim.n]
    exact (List.length_map ..).symm
  have e2 : t.old.length = (gnRun room (ds.take k) (gn0 σ)).2.objs.length := hs.ol
  have e3 : t.s.gone.length = (gnRun room (ds.take k) (gn0 σ)).2.objs.length := hs.gl
  have e4 : t.mks = (gnRun room (ds.take k) (gn0 σ)).2.mks := hs.mks
  refine ⟨⟨hs.mok, by omega, hg⟩, by omega, by omega, fun p hp => ?_, ?_, ?_⟩
  · rw [e4] at hp
    obtain ⟨_, fs, hf, hp2⟩ := hok.mo p hp
    refine ⟨by have := GnA.fld_lt hf; omega, ?_⟩
    have := hs.sim.ob hf
    rw [show obA (absR t.s).objs (p.1 : Int) = fs from this]
    exact hp2
  · rw [e4]; exact hok.ms
  · rw [e4]; omega
theorem cntV_one (l : List (Int × Int)) (x : Int × Int) : countsV (l ++ [x]) = countsV l ++ [.int .i64 x.1, .int .i64 x.2] := by unfold countsV; simp
set_option maxRecDepth 100000 in
set_option maxHeartbeats 64000000 in
theorem refGrown_any (w : World) (AO AR Ad : Option Addr) (nO cO nR cR nd cd R0 : Nat) (obs : List Ob) (roots : List Val) (gs : List (List Val)) (ds : List DoV) (hgs : obs.map Ob.fields = gs) (hO : ObsRd w (fun _ => True) AO nO obs) (hR : Rd w (fun _ => True) 2 AR nR (vals roots)) (hnO : nO ≤ 24) (hnR : nR ≤ 8) (h4 : ∀ o ∈ obs, o.n ≤ 4)
    (hM : MOk ⟨padR roots nR, gs⟩) (hD : Rd w (fun _ => True) 5 Ad nd (dosV ds)) (hnd : nd ≤ 100) (hR0 : R0 ≤ 64) :
    Calls Try.prog 39 #[.agg #[.slice AO nO cO, .slice AR nR cR], .int .i64 (R0 : Int), .slice Ad nd cd] w fun e w' => ∃ A c A2 n2 c2 A3 n3 c3, e = .returned (.agg #[.slice A nd c, .slice A2 n2 c2, .slice A3 n3 c3]) ∧ Below w.heap.size w w' ∧ Rd w' (fun g => w.heap.size ≤ g) 3 A nd (outsV (gnRun R0 ds (gn0 ⟨padR roots nR, gs⟩)).1) ∧ Rd w' (fun g => w.heap.size ≤ g) 2 A2 n2 (countsV (gnThere (gnRun R0 ds (gn0 ⟨padR roots nR, gs⟩)).2)) ∧ Rd w' (fun g => w.heap.size ≤ g) 2 A3 n3 (countsV (gnMks (gnRun R0 ds (gn0 ⟨padR roots nR, gs⟩)).2)) := by
  have hdl : ds.length = nd := by have := hD.1; rw [dosV_length] at this; omega
  have HDL := hide hdl
  have hgl : gs.length = nO := by rw [← hgs, List.length_map]; exact hO.len
  obtain ⟨g, hg⟩ : ∃ g, w.heap.size = g := ⟨_, rfl⟩
  have hS0 := ((Sep.nil No w).blkAt 27 #[.slice AO nO cO, .slice AR nR cR] hg).blkAt 90 #[.slice none 0 0, .slice none 0 0, .slice none 0 0] (g := g + 1) (by simp [hg])
  have CN := hide (fun w' (hb : Below w.heap.size w w') => newMem_any w' AO AR nO cO nR cR obs roots gs hgs (hO.below hb) (hR.below hb) (by omega) hnR h4)
  obtain ⟨σ0, hσ⟩ : ∃ σ, (⟨padR roots nR, gs⟩ : MSt) = σ := ⟨_, rfl⟩
  rw [hσ] at hM ⊢
  simp only [hσ] at CN
  have hso : σ0.objs.length = nO := by rw [← hσ]; exact hgl
  have HSO := hide hso
  have HAT := hide (fun k (hk : k ≤ ds.length) (t : GaT) (h : t.a = (grRun R0 (ds.take k) (gr0 σ0)).2) (hg : t.s.gone.length = t.s.obs.length) => ga_ok_at hM R0 ds (by omega) (by omega) k hk t h hg)
  have HEND := hide (fun (t : GaT) (h : t.a = (grRun R0 ds (gr0 σ0)).2) => (show grThereK t.a t.old.length = gnThere (gnRun R0 ds (gn0 σ0)).2 ∧ gpsV t.mks = countsV (gnMks (gnRun R0 ds (gn0 σ0)).2) from by
    have hs := (gn_run hM R0 ds).2
    rw [← h] at hs
    refine ⟨hs.there, ?_⟩
    have e4 : t.mks = (gnRun R0 ds (gn0 σ0)).2.mks := hs.mks
    rw [e4, gpsV_counts]
    rfl))
  have HOUT := hide (show (grRun R0 ds (gr0 σ0)).1 = (gnRun R0 ds (gn0 σ0)).1 from (gn_run hM R0 ds).1.symm)
  obtain ⟨a1, a2, a3, a4⟩ := hS0.rules 0 (g := g) (t := 27) rfl
  have a5 := (a1 0).trans (show _ = some (.slice AO nO cO) from rfl)
  have a6 := (a1 1).trans (show _ = some (.slice AR nR cR) from rfl)
  have HS0 := hide hS0
  have CN0 := hide (CN.out _ hS0.below_)
  have HRD := hide hD
  clear hgs hO hR h4 hgl hS0 hσ hso hM a1 a4 CN hdl hD
  go_enter Try.func39, Try.ntmps39
  go_wp2_with fail
  refine CN0.out.mono ?_
  rintro e w1 ⟨Bm, m0, rfl, hab, hgn, hP1⟩
  obtain ⟨Ba, hBa⟩ : ∃ x, w1.heap.size = x := ⟨_, rfl⟩
  have hS1 := ((row_new HS0.out hP1).nilRow0 174 2).nilRow0 4 1
  have hS2 := hS1.blkAtF 205 #[.pointer (some ⟨Bm, 0, none⟩), .slice none 0 0, .slice none 0 0] hBa
  have HS2 := hide (show Sep No w _ [blkI Ba 205 #[.pointer (some ⟨Bm, 0, none⟩), .slice none 0 0, .slice none 0 0], rowI 4 1 none 0 0 (bools (List.replicate 0 true)), rowI 174 2 none 0 0 (gpsV []), rmI Bm m0, blkI g 27 #[.slice AO nO cO, .slice AR nR cR], blkI (g + 1) 90 #[.slice none 0 0, .slice none 0 0, .slice none 0 0]] from hS2)
  have HAB := hide hab
  have HGN := hide hgn
  have HBA := hide hBa
  clear hP1 hS1 hS2 hab hgn HS0 CN0 a2 a3 a5 a6 hBa
  go_wp2_with fail
  rw [HBA.out]
  go_loopw [8] (fun i wr => ∃ (k : Nat) (A : Option Addr) (c : Nat), k ≤ nO ∧ i = .int .i64 k ∧ Sep No w wr [blkI Ba 205 #[.pointer (some ⟨Bm, 0, none⟩), .slice A k c, .slice none 0 0], rowI 4 1 A k c (bools (List.replicate k true)), rowI 174 2 none 0 0 (gpsV []), rmI Bm m0, blkI g 27 #[.slice AO nO cO, .slice AR nR cR], blkI (g + 1) 90 #[.slice none 0 0, .slice none 0 0, .slice none 0 0]]) (fun i _ => nO - (intOf i).toNat)
  case atStart => exact ⟨0, none, 0, by omega, rfl, HS2.out⟩
  case round =>
    clear HS2
    obtain ⟨k, A, c, hk, rfl, hS⟩ := hrel
    obtain ⟨x1, x2, x3, -⟩ := hS.rules 0 (g := Ba) (t := 205) rfl
    have x5 := (x1 1).trans (show _ = some (.slice A k c) from rfl)
    obtain ⟨b1, b2, b3, -⟩ := hS.rules 4 (g := g) (t := 27) rfl
    have b5 := (b1 0).trans (show _ = some (.slice AO nO cO) from rfl)
    have HS := hide hS
    by_cases hlt : k < nO
    · clear hS x1 b1
      go_wp2_with (first
        | (at_builtin
           refine wpList_app1 (cs := #[.bool true]) rfl (.tmp 29) (.tmp 30) 63 rfl (F := No) (W := w) sBo (items := _ :: _ :: _ :: _ :: _ :: _ :: _) HS.out 1 (n := k) rfl rfl rfl (by simp) rfl rfl (by omega) ?_
           intro A6 c6 w6 hS6 hC6
           obtain ⟨u1, u2, u3, -⟩ := hS6.rules 0 (g := Ba) (t := 205) rfl
           clear hC6))
      have HS7 := hide (hS6.set_ 0 (g := Ba) (t := 205) rfl 1 (.slice A6 (k + 1) c6))
      clear hS6 u1
      go_roundw
      case rel => exact ⟨k + 1, A6, c6, by omega, by go_num, by
        rw [List.replicate_succ', show bools (List.replicate k true ++ [true]) = bools (List.replicate k true) ++ [.bool true] from by simp [bools]]
        exact HS7.out⟩
      case measure => simp [intOf]; omega
    · obtain rfl : k = nO := by omega
      obtain ⟨t0, ht0⟩ : ∃ q : GaT, (⟨m0, A, c, List.replicate k true, none, 0, []⟩ : GaT) = q := ⟨_, rfl⟩
      have HA0 := hide (show t0.a = (grRun R0 (ds.take 0) (gr0 σ0)).2 from by
        rw [← ht0]
        show (⟨absR m0, List.replicate k true, m0.gone, []⟩ : GrA) = gr0 σ0
        unfold gr0
        rw [HAB.out, HGN.out, HSO.out])
      have HG0 := hide (show t0.s.gone.length = t0.s.obs.length from by
        rw [← ht0]
        show m0.gone.length = m0.obs.length
        rw [HGN.out, List.length_replicate]
        have h1 : (absR m0).objs.length = k := by rw [HAB.out]; exact HSO.out
        have h2 : (absR m0).objs.length = m0.obs.length := List.length_map ..
        omega)
      obtain ⟨gO, hgO⟩ : ∃ x, wr.heap.size = x := ⟨_, rfl⟩
      have hS3 : Sep No w wr [gaI Ba Bm t0, blkI g 27 #[.slice AO k cO, .slice AR nR cR], blkI (g + 1) 90 #[.slice none 0 0, .slice none 0 0, .slice none 0 0]] := by
        rw [← ht0]
        have h1 : Sep No w wr (gaL Ba Bm ⟨m0, A, c, List.replicate k true, none, 0, []⟩ ++ [blkI g 27 #[.slice AO k cO, .slice AR nR cR], blkI (g + 1) 90 #[.slice none 0 0, .slice none 0 0, .slice none 0 0]]) := by
          unfold gaL gaC
          dsimp only
          rw [List.length_replicate]
          exact hS
        exact h1.join
      have HS4 := hide ((hS3.blkAt 90 #[.slice none 0 0, .slice none 0 0, .slice none 0 0] hgO).nilRow 41 3)
      have HGO := hide hgO
      clear hS hS3 x1 b1 HS ht0 HAB HGN hgO
      go_wp2_with fail
      rw [HGO.out]
      go_loopw [37] (fun i wr => ∃ (j : Nat) (A : Option Addr) (c' : Nat) (t : GaT), j ≤ nd ∧ i = .int .i64 j ∧ Hid (t.a = (grRun R0 (ds.take j) (gr0 σ0)).2) ∧ Hid (t.s.gone.length = t.s.obs.length) ∧
        Sep No w wr [gaI Ba Bm t, blkI g 27 #[.slice AO k cO, .slice AR nR cR], blkI (g + 1) 90 #[.slice none 0 0, .slice none 0 0, .slice none 0 0], blkI gO 90 #[.slice A j c', .slice none 0 0, .slice none 0 0], rowI 41 3 A j c' (outsV (grRun R0 (ds.take j) (gr0 σ0)).1)]) (fun i _ => nd - (intOf i).toNat)
      case atStart => exact ⟨0, none, 0, t0, by omega, rfl, HA0, HG0, HS4.out⟩
      case round =>
        clear HS4 HA0 HG0
        obtain ⟨j, A, c', t, hj, rfl, HA, HG, hS⟩ := hrel
        have ok := HAT.out j (by have := HDL.out; omega) t HA.out HG.out
        by_cases hlt2 : j < nd
        · have hjl : j < ds.length := by rw [HDL.out]; exact hlt2
          obtain ⟨v0, v1, v2, v3, v4⟩ := dosV_at ds j hjl
          obtain ⟨ad, hA, _, had, hcc, hdd⟩ := (HRD.out.below hS.below_).atN hlt2
          have e0 := hcc _ v0
          have e1 := hdd 0 _ v1
          have e2 := hdd 1 _ v2
          have e3 := hdd 2 _ v3
          have e4 := hdd 3 _ v4
          have hrs := grRun_at R0 ds (gr0 σ0) j hjl
          rw [← HA.out] at hrs
          obtain ⟨d, hd'⟩ : ∃ d, ds[j] = d := ⟨_, rfl⟩
          rw [hd'] at e0 e1 e2 e3 e4 hrs
          obtain ⟨gd, hgd⟩ : ∃ x, wr.heap.size = x := ⟨_, rfl⟩
          have hS2 := hS.blkAt 39 d.cells hgd
          have CST := gStep_any (hS2.drew.get 0 rfl) ok d R0
          unfold GStepOk at CST
          obtain ⟨p, hp⟩ : ∃ p, grStep R0 d t.a = p := ⟨_, rfl⟩
          rw [hp] at CST hrs
          obtain ⟨⟨oc, orf, on⟩, r'⟩ := p
          unfold OutV.val at CST
          dsimp only at CST hrs
          have HRS := hide hrs
          obtain ⟨x1, x2, x3, -⟩ := hS2.rules 3 (g := gO) (t := 90) rfl
          have x5 := (x1 0).trans (show _ = some (.slice A j c') from rfl)
          obtain ⟨z1, z2, z3, -⟩ := hS2.rules 5 (g := gd) (t := 39) rfl
          obtain ⟨dk, dto, dfr, dat, dn⟩ := d
          unfold DoV.cells at CST hS2 x2 x3 x5 z1 z2 z3
          dsimp only at CST hS2 e0 e1 e2 e3 e4 x2 x3 x5 z1 z2 z3
          have z5 := (z1 0).trans (show _ = some (.int .i64 dk) from rfl)
          have z6 := (z1 1).trans (show _ = some (.int .i64 dto) from rfl)
          have z7 := (z1 2).trans (show _ = some (.int .i64 dfr) from rfl)
          have z8 := (z1 3).trans (show _ = some (.int .i64 dat) from rfl)
          have z9 := (z1 4).trans (show _ = some (.int .i64 dn) from rfl)
          have HCST := hide CST
          have HS2 := hide hS2
          have hne : gO ≠ gd := by have := hS.hi 3 rfl gO rfl; omega
          have hne2 : gd ≠ gO := fun e => hne e.symm
          subst hA
          clear hcc hdd v0 v1 v2 v3 v4 hrs hd' hS2 hS ok CST hp x1 z1 HA HG
          go_wp2_with fail
          go_region_law (first
            | (try go_simp
               go_at_call 93
               (with_reducible refine HCST.out.mono ?_)
               rintro e w3 ⟨rfl, t', hta, hgn', hP3⟩
               (have hS3 := HS2.out.drew.call 0 rfl hP3)
               obtain ⟨y1, y2, y3, -⟩ := hS3.rules 3 (g := gO) (t := 90) rfl
               (have y5 := (y1 0).trans (show _ = some (.slice A j c') from rfl))
               (have HS3 := hide hS3)
               (have HTA := hide hta)
               (have HGN' := hide hgn')
               (have y6 := (World.cell?_alloc_lt w3 (.cells #[.int .i64 oc, .bool orf, .int .i64 on] 41) _ y3).trans y5)
               clear hS3 hP3 hta hgn' y1)
            | (refine step_app1 (cs := #[.int .i64 oc, .bool orf, .int .i64 on]) rfl (.tmp 42) (.tmp 47) 23 rfl (F := No) (W := w) sOut (items := _ :: _ :: _ :: _ :: _ :: _) HS3.out 4 (n := j) rfl rfl rfl (by simp) rfl rfl (by omega) ?_
               intro A7 c7 w7 hS7 hC7
               obtain ⟨u1, u2, u3, -⟩ := hS7.rules 3 (g := gO) (t := 90) rfl
               (have u5 := (u1 0).trans (show _ = some (.slice A j c') from rfl))
               clear u1 hC7))
          all_goals
            have HS8 := hide ((hS7.set_ 3 (g := gO) (t := 90) rfl 0 (.slice A7 (j + 1) c7)).sub (l := [_, _, _, _, _]) (List.sublist_append_left [_, _, _, _, _] [_]))
            clear hS7
            go_wp2_with fail
            go_roundw
            case rel => exact ⟨j + 1, A7, c7, t', by omega, by go_num, by rw [HRS.out]; exact HTA, HGN', by
              rw [HRS.out]
              dsimp only
              rw [outsV_app, outsV_one]
              exact HS8.out⟩
            case measure => simp [intOf]; omega
        · obtain rfl : j = nd := by omega
          have htk : ds.take j = ds := List.take_of_length_le (by rw [HDL.out]; exact Nat.le_refl _)
          rw [htk] at HA hS
          rw [HOUT.out] at hS
          obtain ⟨hen1, hen2⟩ := HEND.out t HA.out
          have HEN := hide hen1
          have HEN2 := hide hen2
          obtain ⟨c0, c1, c2, -, c4, -, c6, c7⟩ := ga_cells (hS.get 0 rfl)
          obtain ⟨os, hos⟩ : ∃ l, (gnRun R0 ds (gn0 σ0)).1 = l := ⟨_, rfl⟩
          rw [hos] at hS
          have HOS := hide hos
          have HS4 := hide (show Sep No w wr [gaI Ba Bm t, blkI g 27 #[.slice AO k cO, .slice AR nR cR], blkI (g + 1) 90 #[.slice none 0 0, .slice none 0 0, .slice none 0 0], blkI gO 90 #[.slice A j c', .slice none 0 0, .slice none 0 0], rowI 41 3 A j c' (outsV os), rowI 174 2 none 0 0 (countsV (grThereK t.a 0))] from hS.nilRow 174 2)
          have HLN := hide ok.n
          have HHL := hide ok.hl
          obtain ⟨N, hN⟩ : ∃ n, t.old.length = n := ⟨_, rfl⟩
          have HNN := hide hN
          rw [hN] at c1 HLN HHL HEN
          clear hS hen1 hen2 hos ok HAT HEND HOUT HG HA hN
          go_wp2_with fail
          go_loopw [12] (fun i wr => ∃ (q n2 : Nat) (A2 : Option Addr) (c2 : Nat), q ≤ N ∧ i = .int .i64 q ∧ Hid ((grThereK t.a q).length = n2) ∧ Sep No w wr [gaI Ba Bm t, blkI g 27 #[.slice AO k cO, .slice AR nR cR], blkI (g + 1) 90 #[.slice none 0 0, .slice none 0 0, .slice none 0 0], blkI gO 90 #[.slice A j c', .slice A2 n2 c2, .slice none 0 0], rowI 41 3 A j c' (outsV os), rowI 174 2 A2 n2 c2 (countsV (grThereK t.a q))]) (fun i _ => N - (intOf i).toNat)
          case atStart => exact ⟨0, 0, none, 0, by omega, rfl, hide rfl, HS4.out⟩
          case round =>
            clear HS4 c0 c1 c2 c4 c6 c7
            obtain ⟨q, n2, A2, c2, hq, rfl, HM, hS⟩ := hrel
            obtain ⟨c0, c1, cm, -, c4, -, c6, c7⟩ := ga_cells (hS.get 0 rfl)
            rw [HNN.out] at c1
            rw [HHL.out] at c7
            obtain ⟨x1, x2, x3, -⟩ := hS.rules 3 (g := gO) (t := 90) rfl
            have x5 := (x1 1).trans (show _ = some (.slice A2 n2 c2) from rfl)
            have hn2 : n2 ≤ q := by have := grThereK_len t.a q; rw [HM.out] at this; exact this
            have hN4 := HLN.out
            by_cases hlt3 : q < N
            · obtain ⟨go, ho1, ho2, ho3, ho4⟩ := ga_old (hS.get 0 rfl) (z := q) (by rw [HNN.out]; exact hlt3)
              obtain ⟨gg, hg1, hg2, hg3, hg4⟩ := ga_gone (hS.get 0 rfl) (z := q) (by rw [HHL.out]; exact hlt3)
              rw [ho1] at c1
              rw [hg1] at c7
              have t1 : (q : Int) < (N : Int) := by omega
              have HSU := hide (grThereK_succ t.a q)
              have HS := hide hS
              cases hgn' : t.a.gn q with
              | true =>
                rw [hgn'] at hg2
                have HE := hide (show grThereK t.a (q + 1) = grThereK t.a q from by rw [HSU.out, hgn', if_pos rfl, List.append_nil])
                clear hS x1 ho1 hg1 hgn'
                go_wp2_with fail
                go_roundw
                case rel => exact ⟨q + 1, n2, A2, c2, by omega, by go_num, by rw [HE.out]; exact HM, by rw [HE.out]; exact HS.out⟩
                case measure => simp [intOf]; omega
              | false =>
                rw [hgn'] at hg2
                cases hod : t.a.od q with
                | false =>
                  rw [hod] at ho2
                  have HE := hide (show grThereK t.a (q + 1) = grThereK t.a q ++ [((q : Int), 0)] from by rw [HSU.out, hgn', hod, if_neg (by simp), if_neg (by simp)])
                  clear hS x1 ho1 hg1 hod hgn'
                  go_wp2_with (first
                    | (at_builtin
                       refine wpList_app1 (cs := #[.int .i64 (q : Int), .int .i64 0]) rfl (.tmp 81) (.tmp 83) 71 rfl (F := No) (W := w) sCnt (items := _ :: _ :: _ :: _ :: _ :: _ :: _) (HS.out.alloc _) 5 (n := n2) rfl rfl rfl (by simp) rfl rfl (by omega) ?_
                       intro A4 c4 w4 hS4 hC4
                       obtain ⟨u1, u2, u3, -⟩ := hS4.rules 3 (g := gO) (t := 90) rfl
                       clear hC4))
                  have HS5 := hide ((hS4.set_ 3 (g := gO) (t := 90) rfl 1 (.slice A4 (n2 + 1) c4)))
                  clear hS4 u1
                  go_roundw
                  case rel => exact ⟨q + 1, n2 + 1, A4, c4, by omega, by go_num, hide (by rw [HE.out, List.length_append, HM.out]; rfl), by rw [HE.out, cntV_one]; exact HS5.out⟩
                  case measure => simp [intOf]; omega
                | true =>
                  rw [hod] at ho2
                  have HE := hide (show grThereK t.a (q + 1) = grThereK t.a q ++ [((q : Int), 1)] from by rw [HSU.out, hgn', hod, if_neg (by simp), if_pos rfl])
                  clear hS x1 ho1 hg1 hod hgn'
                  go_wp2_with (first
                    | (at_builtin
                       refine wpList_app1 (cs := #[.int .i64 (q : Int), .int .i64 1]) rfl (.tmp 81) (.tmp 83) 71 rfl (F := No) (W := w) sCnt (items := _ :: _ :: _ :: _ :: _ :: _ :: _) (HS.out.alloc _) 5 (n := n2) rfl rfl rfl (by simp) rfl rfl (by omega) ?_
                       intro A4 c4 w4 hS4 hC4
                       obtain ⟨u1, u2, u3, -⟩ := hS4.rules 3 (g := gO) (t := 90) rfl
                       clear hC4))
                  have HS5 := hide ((hS4.set_ 3 (g := gO) (t := 90) rfl 1 (.slice A4 (n2 + 1) c4)))
                  clear hS4 u1
                  go_roundw
                  case rel => exact ⟨q + 1, n2 + 1, A4, c4, by omega, by go_num, hide (by rw [HE.out, List.length_append, HM.out]; rfl), by rw [HE.out, cntV_one]; exact HS5.out⟩
                  case measure => simp [intOf]; omega
            · obtain rfl : q = N := by omega
              rw [HEN.out] at hS
              have hn1 : gO ≠ g + 1 := fun e => hS.other (a := 3) (b := 2) rfl rfl (by omega) gO rfl e
              have hn2' : g + 1 ≠ gO := fun e => hn1 e.symm
              obtain ⟨y1, y2, y3, -⟩ := hS.rules 2 (g := g + 1) (t := 90) rfl
              have x6 := (x1 0).trans (show _ = some (.slice A j c') from rfl)
              have x7 := (x1 2).trans (show _ = some (.slice none 0 0) from rfl)
              have HS := hide hS
              clear hS
              go_wp2_with fail
              have hF := ((((HS.out.set_ 3 (g := gO) (t := 90) rfl 2 (.slice t.Am t.mks.length t.cm)).set_ 2 (g := g + 1) (t := 90) rfl 0 (.slice A j c')).set_ 2 (g := g + 1) (t := 90) rfl 1 (.slice A2 n2 c2)).set_ 2 (g := g + 1) (t := 90) rfl 2 (.slice t.Am t.mks.length t.cm))
              obtain ⟨z1, -, -, -⟩ := hF.rules 2 (g := g + 1) (t := 90) rfl
              have hG := Sep.split (l := gaL Ba Bm t) hF
              refine bodyPost_ret (v := .agg #[.slice A j c', .slice A2 n2 c2, .slice t.Am t.mks.length t.cm]) (by simp [results, Try.results39, go_sem, z1]) rfl ⟨A, c', A2, n2, c2, t.Am, t.mks.length, t.cm, rfl, hF.below_, by rw [HOS.out]; exact hF.rd 4 rfl, hF.rd 5 rfl, by rw [← HEN2.out]; exact hG.rd 2 rfl⟩
end Go.Proofs.Ytjphckfbbiehdaa

namespace Go.Proofs.Ytjphckfbbiehdaa
open Go.ChangeShapes Go.WideShapes Go.Deep Go.RowKit
theorem block_lt_ {w : World} {a : Addr} {v : Value} (h : w.cell? a = some v) : a.block < w.heap.size := by
  unfold World.cell? at h
  split at h
  · rename_i hb; exact (Array.getElem?_eq_some_iff.1 hb).1
  · cases h
end Go.Proofs.Ytjphckfbbiehdaa

namespace Go.Proofs.Ytjphckfbbiehdaa
open Go.ChangeShapes Go.WideShapes Go.Deep Go.RowKit
theorem vals_at_ (l : List Val) (q r : Nat) (hr : r < 2) : (vals l)[q * 2 + r]? = (l[q]?).bind fun d => [Value.bool d.1, .int .i64 d.2][r]? := by
  unfold vals
  induction l generalizing q with
  | nil => rfl
  | cons a l ih =>
    rw [List.flatMap_cons]
    cases q with
    | zero => rw [List.getElem?_append_left (by simp; omega)]; simp
    | succ q => rw [List.getElem?_append_right (by simp; omega), show (q + 1) * 2 + r - [Value.bool a.1, .int .i64 a.2].length = q * 2 + r by simp; omega, ih]; rfl
section
variable {H : Type} {enc : TypeId × Value → H} {P : Program} {w : World} {base : Nat} {spare : Nat → Bool} {held : Bool}
/-- A slice of structs of a bool and an int. -/
theorem trod_vals {t e : TypeId} {f0 f1 : Field} {fuel : Nat} {cs : List Value} {x : DataW H × List MemPlace} (ht : P.underlying t = some (.slice e)) (he : P.underlying e = some (.struct #[f0, f1])) (hone : oneCellFields P #[f0, f1] = true) (hC : P.cellsOf e = 2)
    (i0 : P.underlying f0.type = some .bool) (i1 : P.underlying f1.type = some (.int .i64)) (h : DataW.trod enc P w base spare held fuel t cs = some x) :
    ∃ (A : Option Addr) (n c : Nat) (l : List Val), cs = [.slice A n c] ∧ n ≤ 9223372036854775807 ∧ Rd w (fun _ => True) 2 A n (vals l) := by
  rcases open_slice ht h with ⟨h0, _⟩ | ⟨a, n, c, m, n0, D, Pl, rfl, _, hl, hm, hmm, _, hx⟩
  · exact ⟨none, 0, 0, [], h0, by omega, Rd.nil⟩
  · have hle : n ≤ m := by rw [hmm]; split <;> omega
    have hmx : c ≤ 9223372036854775807 := by simpa [maxLen] using hm
    have key : ∀ i, i < n → ∃ x : Val, w.cell? (a.add (i * 2)) = some (.bool x.1) ∧ w.cell? (a.add (i * 2 + 1)) = some (.int .i64 x.2) := by
      intro i hi'
      obtain ⟨cs', h1, h2⟩ := hx i (by omega)
      rw [hC] at h1
      obtain ⟨_, hcl, hat⟩ := World.cells?_some h1
      obtain ⟨y0, y1, n', _, _, hj0, hj1⟩ := trod_struct2 he h2
      obtain ⟨o0, k0⟩ := hone_of hone 0 f0 rfl
      obtain ⟨o1, k1⟩ := hone_of hone 1 f1 rfl
      rw [o0, k0] at hj0
      rw [o1, k1] at hj1
      obtain ⟨b, e0, _⟩ := DataW.trod_bool i0 hj0
      obtain ⟨k, e1, _, _⟩ := DataW.trod_int i1 hj1
      refine ⟨(b, k), ?_, ?_⟩
      · have h3 := hat 0 (by omega)
        have e2 := congrArg (fun l => l[0]?) e0
        have e3 : cs'[0]? = some (.bool b) := by simpa [List.getElem?_take, List.getElem?_drop] using e2
        rw [← e3, ← h3, add_of_add, Nat.add_zero]
      · have h3 := hat 1 (by omega)
        have e2 := congrArg (fun l => l[0]?) e1
        have e3 : cs'[1]? = some (.int .i64 k) := by simpa [List.getElem?_take, List.getElem?_drop] using e2
        rw [← e3, ← h3, add_of_add]
    obtain ⟨f, hf'⟩ := choose_lt key
    refine ⟨some a, n, c, (List.range n).map f, rfl, by omega, ?_, ?_⟩
    · rw [vals_length]; simp
    · intro hn
      refine ⟨a, rfl, trivial, ?_, ?_⟩
      · have := block_lt_ (hf' 0 hn).1
        simpa [block_of_add] using this
      · intro j u hu
        obtain ⟨q, r, hr, rfl⟩ : ∃ q r, r < 2 ∧ j = q * 2 + r := ⟨j / 2, j % 2, Nat.mod_lt _ (by omega), by omega⟩
        rw [vals_at_ _ _ _ hr] at hu
        simp only [List.getElem?_map] at hu
        rcases Nat.lt_or_ge q n with hq | hq
        case inr => rw [List.getElem?_eq_none (by simp; omega)] at hu; cases hu
        rw [List.getElem?_range hq] at hu
        simp only [Option.map_some, Option.bind_some] at hu
        obtain ⟨g0, g1⟩ := hf' q hq
        rcases (show r = 0 ∨ r = 1 by omega) with rfl | rfl
        · simp at hu; subst hu; simpa using g0
        · simp at hu; subst hu; exact g1
end
end Go.Proofs.Ytjphckfbbiehdaa

namespace Go.Proofs.Ytjphckfbbiehdaa
open Go.ChangeShapes Go.WideShapes Go.Deep Go.RowKit
def Caps (obs : List Ob) : Prop := ∀ o ∈ obs, o.n ≤ o.c ∧ (o.A = none → o.c = 0)
section
variable {H : Type} {enc : TypeId × Value → H} {P : Program} {w : World} {base : Nat} {spare : Nat → Bool} {held : Bool}
theorem trod_valsC {t e : TypeId} {f0 f1 : Field} {fuel : Nat} {cs : List Value} {x : DataW H × List MemPlace} (ht : P.underlying t = some (.slice e)) (he : P.underlying e = some (.struct #[f0, f1])) (hone : oneCellFields P #[f0, f1] = true) (hC : P.cellsOf e = 2)
    (i0 : P.underlying f0.type = some .bool) (i1 : P.underlying f1.type = some (.int .i64)) (h : DataW.trod enc P w base spare held fuel t cs = some x) :
    ∃ (A : Option Addr) (n c : Nat) (l : List Val), cs = [.slice A n c] ∧ (n ≤ c ∧ (A = none → c = 0)) ∧ Rd w (fun _ => True) 2 A n (vals l) := by
  obtain ⟨A, n, c, l, e1, _, hr⟩ := trod_vals ht he hone hC i0 i1 h
  refine ⟨A, n, c, l, e1, ?_, hr⟩
  rcases open_slice ht h with ⟨h0, _⟩ | ⟨a, n', c', m, n0, D, Pl, h0, _, hl, hm, hmm, _, hx⟩
  · rw [e1] at h0
    simp at h0
    exact ⟨by omega, fun _ => h0.2.2⟩
  · rw [e1] at h0
    simp at h0
    exact ⟨by omega, fun h => by rw [h] at h0; simp at h0⟩
theorem trod_objsC {t e tf te : TypeId} {f f0 f1 : Field} {fuel : Nat} {cs : List Value} {x : DataW H × List MemPlace} (ht : P.underlying t = some (.slice e)) (he : P.underlying e = some (.struct #[f])) (hone1 : oneCellFields P #[f] = true) (hC1 : P.cellsOf e = 1) (hft : f.type = tf)
    (htf : P.underlying tf = some (.slice te)) (hte : P.underlying te = some (.struct #[f0, f1])) (hone : oneCellFields P #[f0, f1] = true) (hC : P.cellsOf te = 2)
    (i0 : P.underlying f0.type = some .bool) (i1 : P.underlying f1.type = some (.int .i64)) (h : DataW.trod enc P w base spare held fuel t cs = some x) :
    ∃ (A : Option Addr) (n c : Nat) (l : List Ob), cs = [.slice A n c] ∧ n ≤ 9223372036854775807 ∧ ObsRd w (fun _ => True) A n l ∧ Caps l := by
  rcases open_slice1 ht hC1 h with ⟨h0, _⟩ | ⟨a, n, c, m, n0, V, D, Pl, rfl, _, hl, hm, hmm, _, hx⟩
  · exact ⟨none, 0, 0, [], h0, by omega, ⟨Rd.nil, fun o ho => by cases ho⟩, fun o ho => by cases ho⟩
  · have hle : n ≤ m := by rw [hmm]; split <;> omega
    have hmx : c ≤ 9223372036854775807 := by simpa [maxLen] using hm
    have key : ∀ i, i < n → ∃ o : Ob, w.cell? (a.add i) = some o.val ∧ Rd w (fun _ => True) 2 o.A o.n (vals o.fields) ∧ (o.n ≤ o.c ∧ (o.A = none → o.c = 0)) := by
      intro i hi'
      obtain ⟨h1, h2⟩ := hx i (by omega)
      obtain ⟨y0, n', _, _, hj0⟩ := trod_struct1 he h2
      obtain ⟨o0, k0⟩ := hone_of hone1 0 f rfl
      rw [o0, k0, hft] at hj0
      obtain ⟨A', n1, c1, l1, e1, hnc, hr⟩ := trod_valsC htf hte hone hC i0 i1 hj0
      refine ⟨⟨A', n1, c1, l1⟩, ?_, hr, hnc⟩
      have e2 := congrArg (fun l => l[0]?) e1
      have e3 : V i = .slice A' n1 c1 := by simpa using e2
      rw [h1, e3]; rfl
    haveI : Inhabited Ob := ⟨⟨none, 0, 0, []⟩⟩
    obtain ⟨g, hg⟩ := choose_lt key
    refine ⟨some a, n, c, (List.range n).map g, rfl, by omega, ⟨⟨by simp, fun hn => ⟨a, rfl, trivial, ?_, ?_⟩⟩, fun o ho => ?_⟩, fun o ho => ?_⟩
    · have := block_lt_ (hg 0 hn).1
      simpa [block_of_add] using this
    · intro j u hu
      simp only [List.getElem?_map] at hu
      rcases Nat.lt_or_ge j n with hq | hq
      case inr => rw [List.getElem?_eq_none (by simp; omega)] at hu; cases hu
      rw [List.getElem?_range hq] at hu
      simp at hu
      subst hu
      exact (hg j hq).1
    · obtain ⟨j, hj, rfl⟩ := List.mem_map.1 ho
      exact (hg j (List.mem_range.1 hj)).2.1
    · obtain ⟨j, hj, rfl⟩ := List.mem_map.1 ho
      exact (hg j (List.mem_range.1 hj)).2.2
end
end Go.Proofs.Ytjphckfbbiehdaa
