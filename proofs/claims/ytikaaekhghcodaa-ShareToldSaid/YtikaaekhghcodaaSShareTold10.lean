/- Share: the program's way that tells two apart. Share: the program's refusals. -/
import Derived.Test.YtikaaekhghcodaaSShareTold0
import Derived.Test.YtikaaekhghcodaaSShareTold9
import Derived.Deep.RegionLaw
import Derived.WalkMore
import Derived.Deep.DeepCutAuto
import Derived.Deep.CutBlock
import Derived.Deep.LoopGhost
set_option linter.unusedSimpArgs false
set_option linter.unusedVariables false
namespace Go.Proofs.Ytikaaekhghcodaa
open Go.RowKit
def nts (u : List Nat) : List Value := ints (u.map fun k : Nat => (k : Int))
theorem nts_snoc (u : List Nat) (k : Nat) : nts (u ++ [k]) = nts u ++ (#[.int .i64 (k : Int)] : Array Value).toList := by simp [nts, ints]
/-- What is told of two. -/
def toldR (gs : List (List Val)) (p : Pr) : List Nat × Bool := match bfs gs 600 [(p, [])] [] with | some w => (w, true) | none => ([], false)
theorem toldR_eq {gs : List (List Val)} {nO N : Nat} (hr : RefOk gs nO) (hN : N ≤ 577) (h : ∀ p : Pr, p.1 < nO ∧ p.2 < nO → kn gs (N + 1) p = kn gs N p) {p : Pr} (hp : p.1 < nO ∧ p.2 < nO) :
    toldR gs p = match kn gs N p with | some n => (toldW gs (kn gs N) n p, true) | none => ([], false) := by
  have ok := kn_ok (D := fun p => p.1 < nO ∧ p.2 < nO) h
  unfold toldR
  cases hk : kn gs N p with
  | none =>
    rw [bfs_none ok (fun _ _ _ _ ho => onwO_rng hr ho) 600 [(p, [])] [] (fun x hx => by rw [List.mem_singleton.1 hx]; exact ⟨hp, hk⟩)]
  | some n =>
    have h1 := kn_pos hk
    have h2 := bfs_some ok (fun _ _ _ _ ho => onwO_rng hr ho) n 600 [] [] p [] [] (by omega) h1.1 hk (fun x hx => by cases hx) hp (fun x hx => by cases hx) (fun q hq => by cases hq)
    rw [List.nil_append] at h2
    rw [h2]
    rfl
theorem toldW_step {gs : List (List Val)} {m : Pr → Option Nat} {p : Pr} {d k : Nat} (hk : k < 4) (h0 : ∀ j, j < k → tlB gs m p j (d + 1) = false) (h1 : tlB gs m p k (d + 1) = true) : toldW gs m (d + 1) p = k :: toldW gs m d ((onwO gs p k).getD p) := by
  show (match (List.range 4).find? fun k => tlB gs m p k (d + 1) with | none => [] | some k => k :: toldW gs m d ((onwO gs p k).getD p)) = _
  have : (List.range 4).find? (fun k => tlB gs m p k (d + 1)) = some k := by
    rw [List.find?_range_eq_some]
    exact ⟨h1, List.mem_range.2 hk, fun j hj => by rw [h0 j hj]; rfl⟩
  rw [this]
set_option maxRecDepth 100000 in
set_option maxHeartbeats 1600000 in
theorem told_ok (w : World) (AO AR : Option Addr) (nO cO nR cR : Nat) (obs : List Ob) (roots : List Val) (hbad : gcheck nO nR obs roots = 0) (hO : ObsRd w (fun _ => True) AO nO obs) (hR : Rd w (fun _ => True) 2 AR nR (vals roots)) (a b : Nat) (ha : a < nO) (hb : b < nO) :
    Calls Try.prog 5 #[.agg #[.slice AO nO cO, .slice AR nR cR], .int .i64 (a : Int), .int .i64 (b : Int)] w fun e w' => ∃ A n c, e = .returned (.tuple #[.slice A n c, .bool (toldR (obs.map Ob.fields) (a, b)).2, .int .i64 0]) ∧
      Sep No w w' [rowI 3 1 A n c (nts (toldR (obs.map Ob.fields) (a, b)).1)] := by
  have ok := gok_of hO hbad
  obtain ⟨gs, hgs⟩ : ∃ gs, obs.map Ob.fields = gs := ⟨_, rfl⟩
  have HREF := hide (show RefOk gs nO from by rw [← hgs]; exact ok.vg)
  rw [hgs]
  obtain ⟨⟨W0, is⟩, hTR⟩ : ∃ v, toldR gs (a, b) = v := ⟨_, rfl⟩
  rw [hTR]
  have HTR := hide hTR
  clear hTR
  dsimp only
  have hS0 := (Sep.nil No w).blkAt 25 #[.slice AO nO cO, .slice AR nR cR] rfl
  have C := hide (graphCheck_any _ AO AR nO cO nR cR obs roots (hO.below hS0.below_) (hR.below hS0.below_))
  rw [hbad] at C
  have HS0 := hide hS0
  have HOK := hide ok
  have HOO := hide hO
  have HGS := hide hgs
  have hnO := ok.nO_
  have r1 : (min (a : Int) (b : Int)) = ((min a b : Nat) : Int) := by omega
  have r2 : (max (a : Int) (b : Int)) = ((max a b : Nat) : Int) := by omega
  have r3 : decide (((min a b : Nat) : Int) < 0) = false := by simp
  have r4 : decide ((nO : Int) ≤ ((max a b : Nat) : Int)) = false := by simp; omega
  clear hS0 ok hO hR hgs hbad
  go_enter Try.func5, Try.ntmps5
  go_wp2_with fail
  go_step3
  go_wp2_with fail
  refine C.out.mono ?_
  rintro e w1 ⟨rfl, hB1⟩
  have HS1 := hide (HS0.out.below hB1)
  obtain ⟨a1, a2, a3, a4⟩ := HS1.out.rules 0 (g := w.heap.size) (t := 25) rfl
  have a5 := (a1 0).trans (show _ = some (.slice AO nO cO) from rfl)
  have a6 := (a1 1).trans (show _ = some (.slice AR nR cR) from rfl)
  clear a1 a4 C HS0 hB1
  go_upto_region 4 with fail
  go_cut [33] (fun s33 wx => s33 = .bool false ∧ wx = w1)
  case first =>
    have e1 : decide ((a : Int) < 0) = false := by simp
    have e2 : decide ((b : Int) < 0) = false := by simp
    have e3 : decide (nO ≤ b) = false := by simp; omega
    have e4 : decide (nO ≤ a) = false := by simp; omega
    clear r1 r2 r3 r4
    go_wp2_with fail
    all_goals
      go_meet
      case rel => exact ⟨by simp [e1, e2, e3, e4], rfl⟩
  case rest =>
    obtain ⟨rfl, hwx⟩ := hcut
    have hwx2 := hwx.symm
    subst hwx2
    clear hwx
    have C2 := hide (apart_any w1 AO AR nO cO nR cR obs roots HOK.out (HOO.out.below HS1.out.below_))
    rw [HGS.out] at C2
    clear r1 r2 r3 r4
    go_wp2_with fail
    refine C2.out.mono ?_
    rintro e w2 ⟨bm, N, nn, rfl, hSm, hnn, hcl⟩
    have hS2 := (HS1.out.call0 hSm).blkAt 44 #[.int .i64 (a : Int), .int .i64 (b : Int)] (g := w2.heap.size) rfl
    have hL := pm_look (hS2.get 0 rfl) (a, b) ⟨by dsimp only; omega, by dsimp only; omega⟩
    unfold prV at hL
    dsimp only at hL
    have htr := toldR_eq HREF.out hnn hcl (p := (a, b)) ⟨ha, hb⟩
    have hkd : knD gs nO nn (a, b) = kn gs nn (a, b) := by unfold knD; rw [if_pos ⟨ha, hb⟩]
    rw [hkd] at hL
    have HAP := hide (kn_ok (D := fun p => p.1 < nO ∧ p.2 < nO) hcl)
    obtain ⟨d0, hd0, hd1, hd2, hd3⟩ : ∃ d0 : Nat, numO (kn gs nn (a, b)) = (d0 : Int) ∧ (kn gs nn (a, b)).isSome = is ∧ W0 = toldW gs (kn gs nn) d0 (a, b) ∧ (d0 = 0 ∨ kn gs nn (a, b) = some d0) := by
      rw [HTR.out] at htr
      cases hk : kn gs nn (a, b) with
      | none =>
        rw [hk] at htr
        injection htr with h1 h2
        exact ⟨0, rfl, h2.symm, h1, .inl rfl⟩
      | some n =>
        rw [hk] at htr
        injection htr with h1 h2
        exact ⟨n, rfl, h2.symm, h1, .inr rfl⟩
    have hd4 : d0 ≤ 577 := by
      rcases hd3 with h | h
      · omega
      · have := (kn_pos h).2.1; omega
    rw [hd0, hd1] at hL
    have HW0 := hide hd2
    have HS3 := hide (hS2.nilRow 3 1)
    have HD3 := hide hd3
    clear hS2 hSm C2 HS1 hd0 hd1 hd2 hd3 htr hkd hcl a2 a3 a5 a6
    go_wp2_with fail
    go_step3
    go_wp2_with fail
    go_loopg [12, 14] d0 (fun g s12 s14 wr => ∃ (A : Option Addr) (nl cl : Nat) (u : List Nat) (p : Pr), s12 = .int .i64 (g : Int) ∧ s14 = .slice A nl cl ∧ Hid (p.1 < nO ∧ p.2 < nO) ∧ Hid (nl = u.length) ∧ Hid (u ++ toldW gs (kn gs nn) g p = W0) ∧ Hid (g = 0 ∨ kn gs nn p = some g) ∧ Hid (nl + g ≤ 577) ∧
      Sep No w wr [pmI bm N (knD gs nO nn), blkI w.heap.size 25 #[.slice AO nO cO, .slice AR nR cR], blkI w2.heap.size 44 #[.int .i64 (p.1 : Int), .int .i64 (p.2 : Int)], rowI 3 1 A nl cl (nts u)])
    case atStart => exact ⟨none, 0, 0, [], (a, b), rfl, rfl, hide ⟨ha, hb⟩, rfl, hide (by rw [HW0.out]; rfl), HD3, hide (by omega), HS3.out⟩
    case round =>
      clear HS3 HD3 hd4 hL HW0
      obtain ⟨A, nl, cl, u, ⟨p1, p2⟩, rfl, rfl, HP, HNL, HW, HD, HLN, hS⟩ := hrel
      dsimp only at HP hS
      obtain ⟨g1, g2, g3, g4⟩ := hS.rules 1 (g := w.heap.size) (t := 25) rfl
      have g5 := (g1 0).trans (show _ = some (.slice AO nO cO) from rfl)
      have g6 := (g1 1).trans (show _ = some (.slice AR nR cR) from rfl)
      have HSW := hide hS
      clear hS g1 g4
      rcases gk with _ | d
      · have hW : u = W0 := by have h := HW.out; rwa [show toldW gs (kn gs nn) 0 (p1, p2) = [] from rfl, List.append_nil] at h
        have HF := hide (HSW.out.sub (l := [rowI 3 1 A nl cl (nts u)]) (by simp))
        rw [hW] at HF
        clear HW hW HSW HNL HD
        go_wp2_with fail
        (try rw [Exit.noGoto_ret])
        go_ret3
        exact ⟨A, nl, cl, rfl, HF.out⟩
      · have HK := hide (show kn gs nn (p1, p2) = some (d + 1) from HD.out.resolve_left (by omega))
        obtain ⟨hp1, hp2⟩ := HP.out
        have hd1 : d + 1 ≤ 577 := by have := HLN.out; omega
        clear HD
        go_wp2_with fail
        go_loopg [14, 49] 4 (fun j s14 s49 wi => ∃ k : Nat, k ≤ 4 ∧ j = 4 - k ∧ s14 = .slice A nl cl ∧ s49 = .int .i64 (k : Int) ∧ Hid (∀ i, i < k → tlB gs (kn gs nn) (p1, p2) i (d + 1) = false) ∧ Below wr.heap.size wr wi)
        case atStart => exact ⟨0, by omega, rfl, rfl, rfl, fun i hi => by omega, Below.refl _ _⟩
        case round =>
          obtain ⟨k, hk, hj, rfl, rfl, HNO, hB⟩ := hrel
          by_cases hk4 : k < 4
          · have hSr := HSW.out.below hB
            obtain ⟨g1, g2, g3, g4⟩ := hSr.rules 1 (g := w.heap.size) (t := 25) rfl
            have g5 := (g1 0).trans (show _ = some (.slice AO nO cO) from rfl)
            have g6 := (g1 1).trans (show _ = some (.slice AR nR cR) from rfl)
            obtain ⟨b1, b2, b3, b4⟩ := hSr.rules 2 (g := w2.heap.size) (t := 44) rfl
            have b5 := (b1 0).trans (show _ = some (.int .i64 (p1 : Int)) from rfl)
            have b6 := (b1 1).trans (show _ = some (.int .i64 (p2 : Int)) from rfl)
            have C3 := hide (tells_any wr AO AR nO cO nR cR obs (HOO.out.below hSr.below_) HOK.out.fl HOK.out.vg bm N (knD gs nO nn) (hSr.get 0 rfl) (p1, p2) hp1 hp2 hnO k (d + 1) (by omega) (by omega))
            rw [HGS.out, tlB_knD HREF.out] at C3
            obtain ⟨r, hr⟩ : ∃ r, tlB gs (kn gs nn) (p1, p2) k (d + 1) = r := ⟨_, rfl⟩
            rw [hr] at C3
            unfold prV at C3
            dsimp only at C3
            have HR := hide hr
            have HSR := hide hSr
            have HB := hide hB
            have t1 : decide ((k : Int) < 4) = true := by simp; omega
            have t2 : decide (k < 4) = true := by simp; omega
            clear hr hSr hB g1 g4 b1 b4
            cases r with
            | false =>
              have HNO2 := hide (show ∀ i, i < k + 1 → tlB gs (kn gs nn) (p1, p2) i (d + 1) = false from fun i hi => by
                rcases Nat.lt_or_ge i k with h | h
                · exact HNO.out i h
                · obtain rfl : i = k := by omega
                  exact HR.out)
              clear HNO HR
              go_wp2_with fail
              refine C3.out.mono ?_
              rintro e w5 ⟨rfl, hb5⟩
              have HB5 := hide (HB.out.trans (hb5.mono HB.out.size))
              clear hb5 C3
              go_wp2_with fail
              go_roundg (4 - (k + 1))
              case measure => omega
              case rel => exact ⟨k + 1, by omega, rfl, rfl, by go_num, HNO2, HB5.out⟩
            | true =>
              have HST := hide (toldW_step hk4 HNO.out HR.out)
              go_wp2_with fail
              refine C3.out.mono ?_
              rintro e w5 ⟨rfl, hb5⟩
              have hS5 := HSR.out.below hb5
              clear HSR HB HNO hb5 C3 g2 g3 g5 g6 b2 b3 b5 b6
              have hW9 := HW.out
              rw [HST.out] at hW9
              have HNL2 := hide (show nl + 1 = (u ++ [k]).length from by rw [HNL.out]; simp)
              rcases d with _ | d
              · have HW9 := hide (show (u ++ [k]) ++ toldW gs (kn gs nn) 0 (p1, p2) = W0 from by rw [← hW9]; simp [toldW])
                have HLN2 := hide (show nl + 1 + 0 ≤ 577 from by have := HLN.out; omega)
                clear hW9 HST HW HR HK
                go_wp2_with (at_builtin
                             refine wpList_app1 (cs := #[.int .i64 (k : Int)]) rfl (.tmp 59) (.tmp 61) 26 rfl sInt hS5 3 (n := nl) rfl rfl rfl (by simp) rfl rfl (by have := HLN.out; omega) ?_
                             intro A6 c6 w6 hS6 hC6
                             (have HS6 := hide hS6)
                             clear hS6 hC6)
                go_roundg 0
                case measure => omega
                case rel => exact ⟨A6, nl + 1, c6, u ++ [k], (p1, p2), by go_num, rfl, HP, HNL2, HW9, .inl rfl, HLN2, by rw [nts_snoc]; exact HS6.out⟩
              · obtain ⟨⟨q1, q2⟩, ho, hmq⟩ := tlB_next HR.out
                rw [ho] at hW9
                have HW9 := hide (show (u ++ [k]) ++ toldW gs (kn gs nn) (d + 1) (q1, q2) = W0 from by rw [← hW9]; simp)
                have HLN2 := hide (show nl + 1 + (d + 1) ≤ 577 from by have := HLN.out; omega)
                have HQ := hide (onwO_rng HREF.out ho)
                obtain ⟨f1, f2⟩ := onwO_some HREF.out ho
                have HF1 := hide f1
                have HF2 := hide f2
                have HMQ := hide hmq
                have t8 : decide ((1 : Int) < ((d + 1 + 1 : Nat) : Int)) = true := by simp; omega
                have t7 : decide ((1 : Int) < (d : Int) + 1 + 1) = true := by simp; omega
                clear hW9 HST HW HR HK ho f1 f2 hmq
                go_wp2_with (at_builtin
                             refine wpList_app1 (cs := #[.int .i64 (k : Int)]) rfl (.tmp 59) (.tmp 61) 26 rfl sInt hS5 3 (n := nl) rfl rfl rfl (by simp) rfl rfl (by have := HLN.out; omega) ?_
                             intro A6 c6 w6 hS6 hC6
                             (have HS6 := hide hS6)
                             clear hS6 hC6)
                have hS7 := HS6.out.drew
                obtain ⟨ad, o1, -, hA, -, -, c1, r1, i1, n1, l1⟩ := ob_at (HOO.out.below hS7.below_) HOK.out.fl hp1
                obtain ⟨ad', o2, -, hA', -, -, c2, r2, i2, n2, l2⟩ := ob_at (HOO.out.below hS7.below_) HOK.out.fl hp2
                obtain rfl : ad = ad' := by rw [hA] at hA'; injection hA'
                have f1 : o1.fields[k]? = some (true, (q1 : Int)) := by have h := HF1.out; unfold fldO at h; rwa [← HGS.out, i1] at h
                have f2 : o2.fields[k]? = some (true, (q2 : Int)) := by have h := HF2.out; unfold fldO at h; rwa [← HGS.out, i2] at h
                obtain ⟨hk1, f1'⟩ := List.getElem?_eq_some_iff.1 f1
                obtain ⟨hk2, f2'⟩ := List.getElem?_eq_some_iff.1 f2
                obtain ⟨af, hAf, _, _, _, d1⟩ := r1.atN (show k < o1.n from by omega)
                obtain ⟨ag, hAg, _, _, _, d2⟩ := r2.atN (show k < o2.n from by omega)
                have e1 := d1 0 _ (vals_at o1.fields k hk1).2
                have e2 := d2 0 _ (vals_at o2.fields k hk2).2
                rw [f1'] at e1
                rw [f2'] at e2
                dsimp only at e1 e2
                obtain ⟨A1, n1', cc1, fs1⟩ := o1
                obtain ⟨A2, n2', cc2, fs2⟩ := o2
                dsimp only at hAf hAg c1 c2 n1 n2 l1 l2 hk1 hk2
                subst hA hAf hAg
                obtain ⟨g1, g2, g3, g4⟩ := hS7.rules 1 (g := w.heap.size) (t := 25) rfl
                have g5 := (g1 0).trans (show _ = some (.slice (some ad) nO cO) from rfl)
                obtain ⟨b1, b2, b3, b4⟩ := hS7.rules 2 (g := w2.heap.size) (t := 44) rfl
                have b5 := (b1 0).trans (show _ = some (.int .i64 (p1 : Int)) from rfl)
                have b6 := (b1 1).trans (show _ = some (.int .i64 (p2 : Int)) from rfl)
                have hmx : Try.prog.follows .mixedOrders = true := by kernel_rfl
                have t1' : decide ((p1 : Int) < (nO : Int)) = true := by simp; omega
                have t2' : decide ((p2 : Int) < (nO : Int)) = true := by simp; omega
                have t3' : decide ((k : Int) < (n1' : Int)) = true := by simp; omega
                have t4' : decide ((k : Int) < (n2' : Int)) = true := by simp; omega
                have u1 : p1 < nO := hp1
                have u2 : p2 < nO := hp2
                have u3 : k < n1' := by omega
                have u4 : k < n2' := by omega
                clear g1 g4 b1 b4 d1 d2 hS7 r1 r2 f1 f2 f1' f2' i1 i2 l1 l2 hA'
                refine wp_region_z 23 (fun X => X.cell? ⟨w.heap.size, 0, none⟩ = some (.slice (some ad) nO cO) ∧ X.cell? ⟨w2.heap.size, 0, none⟩ = some (.int .i64 (p1 : Int)) ∧ X.cell? ⟨w2.heap.size, 1, none⟩ = some (.int .i64 (p2 : Int)) ∧ X.cell? (ad.add p1) = some (.slice (some af) n1' cc1) ∧ X.cell? (ad.add p2) = some (.slice (some ag) n2' cc2) ∧ X.cell? ⟨(af.add (k * 2)).block, (af.add (k * 2)).off + (0 + 1), none⟩ = some (.int .i64 (q1 : Int)) ∧ X.cell? ⟨(ag.add (k * 2)).block, (ag.add (k * 2)).off + (0 + 1), none⟩ = some (.int .i64 (q2 : Int))) hmx ?_
                refine wpAnyZ_takes (by kernel_rfl) (fun _ _ _ _ _ h => h) ?_ (fuel := 1) [0, 1, 2, 3, 4, 5, 6, 7, 8, 9, 10, 11, 12, 13, 14, 15, 16, 17, 18, 19, 20, 21, 22] _ _ (Clo.start _) (by kernel_rfl) ?_
                · exact ⟨g5, b5, b6, c1, c2, e1, e2⟩
                · iterate 23
                    refine wpTake_cons (v := ?_) (by rfl) (by rfl) (fun wS hwS => ?_) ?_
                    rotate_left 1
                    · (try dsimp only at hwS)
                      obtain ⟨v1, v2, v3, v4, v5, v6, v7⟩ := hwS
                      go_simp
                      with_reducible rfl
                    try simp only [Act.put, List.setIfInBounds_toArray, List.set_cons_zero, List.set_cons_succ]
                  refine wpTake_nil ?_
                  refine wpAnyZ_one (i := 23) (by kernel_rfl) rfl (fun K9 hK9 => ?_)
                  have z5 : w6.cell? ⟨w2.heap.size, 0, none⟩ = some (.int .i64 (p1 : Int)) := b5
                  have z6 : w6.cell? ⟨w2.heap.size, 1, none⟩ = some (.int .i64 (p2 : Int)) := b6
                  have z7 : ∀ i, w6.frozen? ⟨w2.heap.size, i, none⟩ = false := b2
                  go_simp
                  refine hK9.out _ _ (fun h => absurd rfl h) ?_
                  clear hK9 K9
                  refine wpAnyZ_done (by kernel_rfl) ?_
                  have HF := hide (((HS6.out.set_ 2 (g := w2.heap.size) (t := 44) rfl 0 (.int .i64 (q1 : Int))).set_ 2 (g := w2.heap.size) (t := 44) rfl 1 (.int .i64 (q2 : Int))).drew)
                  clear HS6 z5 z6 z7 g5 b5 b6 c1 c2 e1 e2 b2 b3 g2 g3
                  go_wp2_with fail
                  go_roundg (d + 1)
                  case measure => omega
                  case rel => exact ⟨A6, nl + 1, c6, u ++ [k], (q1, q2), by go_num, rfl, HQ, HNL2, HW9, .inr HMQ.out, HLN2, by rw [nts_snoc]; exact HF.out⟩
          · obtain rfl : k = 4 := by omega
            obtain ⟨_, i, hi, hi2⟩ := HAP.out.d1 _ _ HK.out
            rw [HNO.out i hi] at hi2
            cases hi2
end Go.Proofs.Ytikaaekhghcodaa

namespace Go.Proofs.Ytikaaekhghcodaa
open Go.RowKit
set_option maxHeartbeats 800000 in
theorem told_bad (w : World) (AO AR : Option Addr) (nO cO nR cR : Nat) (obs : List Ob) (roots : List Val) (hbad : gcheck nO nR obs roots ≠ 0) (hO : ObsRd w (fun _ => True) AO nO obs) (hR : Rd w (fun _ => True) 2 AR nR (vals roots)) (a b : Int) :
    Calls Try.prog 5 #[.agg #[.slice AO nO cO, .slice AR nR cR], .int .i64 a, .int .i64 b] w fun e w' => e = .returned (.tuple #[.slice none 0 0, .bool false, .int .i64 (gcheck nO nR obs roots)]) ∧ Below w.heap.size w w' := by
  have hS0 := (Sep.nil No w).blkAt 25 #[.slice AO nO cO, .slice AR nR cR] rfl
  have C := hide (graphCheck_any _ AO AR nO cO nR cR obs roots (hO.below hS0.below_) (hR.below hS0.below_))
  obtain ⟨x, hx⟩ : ∃ x, gcheck nO nR obs roots = x := ⟨_, rfl⟩
  rw [hx] at C hbad ⊢
  have HB := hide hS0.below_
  have t1 : (x != 0) = true := by simp [hbad]
  clear hS0 hO hR hx hbad
  go_enter Try.func5, Try.ntmps5
  go_wp2_with fail
  go_step3
  go_wp2_with fail
  refine C.out.mono ?_
  rintro e w1 ⟨rfl, hB1⟩
  have HB1 := hide (HB.out.trans (hB1.mono HB.out.size))
  clear HB hB1 C
  go_wp2_with fail
  (try rw [Exit.noGoto_ret])
  go_ret3
  exact ⟨rfl, HB1.out⟩
set_option maxRecDepth 100000 in
set_option maxHeartbeats 1600000 in
theorem told_far (w : World) (AO AR : Option Addr) (nO cO nR cR : Nat) (obs : List Ob) (roots : List Val) (hbad : gcheck nO nR obs roots = 0) (hO : ObsRd w (fun _ => True) AO nO obs) (hR : Rd w (fun _ => True) 2 AR nR (vals roots)) (a b : Int) (hab : a < 0 ∨ b < 0 ∨ (nO : Int) ≤ a ∨ (nO : Int) ≤ b) :
    Calls Try.prog 5 #[.agg #[.slice AO nO cO, .slice AR nR cR], .int .i64 a, .int .i64 b] w fun e w' => e = .returned (.tuple #[.slice none 0 0, .bool false, .int .i64 2]) ∧ Below w.heap.size w w' := by
  have hS0 := (Sep.nil No w).blkAt 25 #[.slice AO nO cO, .slice AR nR cR] rfl
  have C := hide (graphCheck_any _ AO AR nO cO nR cR obs roots (hO.below hS0.below_) (hR.below hS0.below_))
  rw [hbad] at C
  have HS0 := hide hS0
  clear hS0 hO hR hbad
  go_enter Try.func5, Try.ntmps5
  go_wp2_with fail
  go_step3
  go_wp2_with fail
  refine C.out.mono ?_
  rintro e w1 ⟨rfl, hB1⟩
  have HS1 := hide (HS0.out.below hB1)
  obtain ⟨a1, a2, a3, a4⟩ := HS1.out.rules 0 (g := w.heap.size) (t := 25) rfl
  have a5 := (a1 0).trans (show _ = some (.slice AO nO cO) from rfl)
  have HB1 := hide HS1.out.below_
  clear a1 a4 C HS0 hB1
  go_upto_region 4 with fail
  go_cut [33] (fun s33 wx => s33 = .bool true ∧ Below w.heap.size w wx)
  case first =>
    cases h1 : decide (a < 0) <;> cases h2 : decide (b < 0) <;> cases h3 : decide ((nO : Int) ≤ a) <;> cases h4 : decide ((nO : Int) ≤ b)
    all_goals
      first
      | (exfalso
         simp only [decide_eq_false_iff_not, decide_eq_true_eq] at h1 h2 h3 h4
         omega)
      | (go_wp2_with fail
         all_goals first
           | (go_meet
              case rel =>
                simp only [decide_eq_false_iff_not, decide_eq_true_eq] at h1 h2 h3 h4
                refine ⟨?_, HB1.out⟩
                simp <;> omega)
           | (exfalso; simp only [decide_eq_false_iff_not, decide_eq_true_eq] at h1 h2 h3 h4; omega))
  case rest =>
    obtain ⟨rfl, hB⟩ := hcut
    have HB2 := hide hB
    clear hB
    go_wp2_with fail
    (try rw [Exit.noGoto_ret])
    go_ret3
    exact ⟨rfl, HB2.out⟩
end Go.Proofs.Ytikaaekhghcodaa
