/- A memory that is copied: a script that may be. -/
import Derived.Test.YtjphckfbbiehdaaSReplicaPlays34
import Derived.Test.YtjphckfbbiehdaaSReplicaPlays28
import Derived.Deep.DeepCutAuto
set_option linter.unusedSimpArgs false
set_option linter.unusedVariables false
namespace Go.Proofs.Ytjphckfbbiehdaa
open Go.RowKit
theorem rp_start {F : Nat → Prop} {W w : World} {Be Bm : Nat} {t : RpT} {a b G1 G2 : Item} (h : Sep F W w (a :: b :: rpM Be Bm t :: ([G1, G2] ++ rpR Be t))) : Sep F W w ((rpKm Bm Be).item t :: [b, a, G1, G2]) := by
  have h1 := h.perm (l := (rpM Be Bm t :: rpR Be t) ++ [b, a, G1, G2]) (by
    refine (List.perm_append_comm (l₁ := [a, b, rpM Be Bm t, G1, G2]) (l₂ := rpR Be t)).trans ?_
    refine List.Perm.trans (List.Perm.append_left (rpR Be t) (t₂ := [rpM Be Bm t, b, a, G1, G2]) ?_) ?_
    · exact (List.perm_append_comm (l₁ := [a, b]) (l₂ := [rpM Be Bm t])).append_right [G1, G2] |>.trans (List.Perm.cons _ (List.Perm.swap _ _ _))
    · exact (List.perm_middle (l₁ := rpR Be t) (a := rpM Be Bm t) (l₂ := [b, a, G1, G2])))
  exact Sep.join (l := (rpKm Bm Be).items t) h1
set_option maxRecDepth 100000 in
set_option maxHeartbeats 32000000 in
theorem repPlay_ok (w : World) (AO AR Ad : Option Addr) (nO cO nR cR nd cd : Nat) (obs : List Ob) (roots : List Val) (gs : List (List Val)) (ds : List DoV) (hgs : obs.map Ob.fields = gs) (hO : ObsRd w (fun _ => True) AO nO obs) (hR : Rd w (fun _ => True) 2 AR nR (vals roots)) (hcp : ∀ o ∈ obs, o.A = none → o.c = 0) (hz : repErr nO nR nd obs roots = 0)
    (hM : MOk ⟨padR roots nR, gs⟩) (hNm : RpNm (rp0 ⟨padR roots nR, gs⟩)) (hD : Rd w (fun _ => True) 5 Ad nd (dosV ds)) :
    Calls Try.prog 36 #[.agg #[.slice AO nO cO, .slice AR nR cR], .slice Ad nd cd] w fun e w' => ∃ A c A2 n2 c2, e = .returned (.tuple #[.agg #[.slice A nd c, .slice A2 n2 c2, .int .i64 (rpRun ds (rp0 ⟨padR roots nR, gs⟩)).2.cps.length, .int .i64 (rpRun ds (rp0 ⟨padR roots nR, gs⟩)).2.log.length, .int .i64 (rpRun ds (rp0 ⟨padR roots nR, gs⟩)).2.times], .int .i64 0]) ∧ Below w.heap.size w w' ∧ Rd w' (fun g => w.heap.size ≤ g) 3 A nd (outsV (rpRun ds (rp0 ⟨padR roots nR, gs⟩)).1) ∧ Rd w' (fun g => w.heap.size ≤ g) 1 A2 n2 (ints (rpRun ds (rp0 ⟨padR roots nR, gs⟩)).2.row) := by
  obtain ⟨hx, hnd⟩ : gcheck nO nR obs roots = 0 ∧ nd ≤ 100 := by
    unfold repErr at hz
    split at hz
    · rename_i h; exact absurd hz h
    · rename_i h
      split at hz
      · omega
      · exact ⟨by omega, by omega⟩
  have hG := gok_of hO hx
  have hnO := hG.nO_
  have hnR := hG.nR_
  have HDL := hide (show ds.length = nd by have := hD.1; rw [dosV_length] at this; omega)
  have hgl : gs.length = nO := by rw [← hgs, List.length_map]; exact hO.len
  obtain ⟨g, hg⟩ : ∃ g, w.heap.size = g := ⟨_, rfl⟩
  have hS0 := ((Sep.nil No w).blkAt 27 #[.slice AO nO cO, .slice AR nR cR] hg).blkAt 85 #[.slice none 0 0, .slice none 0 0, .int .i64 0, .int .i64 0, .int .i64 0] (g := g + 1) (by simp [hg])
  have C1 := graphCheck_any _ AO AR nO cO nR cR obs roots (hO.below hS0.below_) (hR.below hS0.below_)
  rw [hx] at C1
  replace C1 := hide C1
  have CO := hide (fun w' (hb : Below w.heap.size w w') => heapOf_any w' AO AR nO cO nR cR obs gs hgs (hO.below hb) hnO hG.fl hcp)
  have CI := hide (fun w' (hb : Below w.heap.size w w') => heapFirst_any w' AO AR nO cO nR cR roots (hR.below hb) hnR)
  have HFL := hide hG.fl
  obtain ⟨PR, hPR⟩ : ∃ l, padR roots nR = l := ⟨_, rfl⟩
  rw [hPR] at hM hNm ⊢
  simp only [hPR] at CI
  obtain ⟨p0, p1, p2, p3, p4, p5, p6, p7, hp⟩ := len8 (show PR.length = 8 from hM.r8)
  obtain ⟨σ0, hσ⟩ : ∃ σ, (⟨PR, gs⟩ : MSt) = σ := ⟨_, rfl⟩
  rw [hσ] at hM hNm ⊢
  have HSG := hide hσ
  have HSO := hide (show σ0.objs.length = nO by rw [← hσ]; exact hgl)
  obtain ⟨hok0, hsim0⟩ := rp0_ok hM (by rw [← hσ]; show gs.length ≤ 24; omega)
  have HAT := hide (fun k (hk : k ≤ ds.length) => rp_run ds hsim0 hok0 k hk)
  have HNM := hide (fun k (hk : k ≤ ds.length) => RpNm.run ds hsim0 hok0 hNm k hk)
  have HM := hide hM
  have HPV := hide hp
  have hCI2 : ∀ w' (hb : Below w.heap.size w w'), Calls Try.prog 72 #[.agg #[.slice AO nO cO, .slice AR nR cR]] w' fun e w2 => e = .returned (.agg #[.bool p0.1, .int .i64 p0.2, .bool p1.1, .int .i64 p1.2, .bool p2.1, .int .i64 p2.2, .bool p3.1, .int .i64 p3.2, .bool p4.1, .int .i64 p4.2, .bool p5.1, .int .i64 p5.2, .bool p6.1, .int .i64 p6.2, .bool p7.1, .int .i64 p7.2]) ∧ Below w'.heap.size w' w2 := by rw [hp] at CI; exact CI.out
  replace CI := hide hCI2
  obtain ⟨a1, a2, a3, a4⟩ := hS0.rules 0 (g := g) (t := 27) rfl
  have HS0 := hide hS0
  have t1 : decide ((100 : Int) < (nd : Int)) = false := by simp; omega
  have t2 : decide (100 < nd) = false := by simp; omega
  clear hgs hO hR hgl hS0 hM hCI2 hG hcp hz hx hσ hPR hp a1 a4 hok0 hsim0 hNm
  go_enter Try.func36, Try.ntmps36
  go_wp2_with fail
  refine C1.out.mono ?_
  rintro e w1 ⟨rfl, hb1⟩
  have hS2 := HS0.out.below hb1
  obtain ⟨b1, b2, b3, b4⟩ := hS2.rules 0 (g := g) (t := 27) rfl
  have b5 := (b1 0).trans (show _ = some (.slice AO nO cO) from rfl)
  have b6 := (b1 1).trans (show _ = some (.slice AR nR cR) from rfl)
  have HS2 := hide hS2
  clear hb1 hS2 C1 HS0 a2 a3 b1 b4
  go_wp2_with fail
  refine (CO.out _ HS2.out.below_).mono ?_
  rintro e w4 ⟨As, c2, ps, rfl, hpl, hpf, hP4⟩
  have hS4 := objs_new HS2.out hP4
  obtain ⟨Be, hBe⟩ : ∃ x, w4.heap.size = x := ⟨_, rfl⟩
  have hS5 := hS4.blkAtF 190 #[.slice As nO c2, .slice none 0 0, .map none, .slice none 0 0, .int .i64 0, .slice none 0 0, .int .i64 0] hBe
  obtain ⟨X, hX⟩ : ∃ X, w4.alloc (.cells #[.slice As nO c2, .slice none 0 0, .map none, .slice none 0 0, .int .i64 0, .slice none 0 0, .int .i64 0] 190) = X := ⟨_, rfl⟩
  rw [hX] at hS5
  have HX := hide hX
  have HS5 := hide hS5
  have HPL := hide hpl
  have HPF := hide hpf
  have CT := oThere_any X As nO c2 (ps.map some) (by omega) (by
    have h1 := hS5.get 1 rfl
    have h2 : (rowI 170 1 As nO c2 (ps.map poPtr)).P X := h1.1 _ (List.mem_cons_self ..)
    have h3 := Rd.of_own (D := fun _ => True) (show X.ownsRow 0 170 1 (.slice As nO c2) nO (ps.map poPtr) from h2) (fun _ _ => trivial)
    rw [List.map_map]
    exact h3)
  rw [thereL_all] at CT
  have HCT := hide CT
  have HBB := hide (hS5.hi 0 rfl Be rfl)
  clear hS4 hP4 hS5 hX hpl hpf CO CT
  go_upto_region 7 with fail
  go_wp2_with fail
  rw [HX.out]
  refine HCT.out.mono ?_
  rintro e w5 ⟨A0, c0, rfl, hP5⟩
  have hS6 := row_new HS5.out hP5
  obtain ⟨j1, j2, j3, _⟩ := hS6.rules 1 (g := Be) (t := 190) rfl
  have j5 := (j1 1).trans (show _ = some (.slice none 0 0) from rfl)
  obtain ⟨rn, hrn⟩ : ∃ q, (rangeI ps.length).length = q := ⟨_, rfl⟩
  rw [hrn] at hS6
  have hS7 := hS6.set_ 1 (g := Be) (t := 190) rfl 1 (.slice A0 rn c0)
  have hS8 := rp_mk HPL.out hS7
  rw [← hrn] at hS8
  have CB := rpbegin2_any [p0, p1, p2, p3, p4, p5, p6, p7] (oj := ⟨As, c2, ps.map some⟩) (times := 0) (by rw [show (⟨As, c2, ps.map some⟩ : Oj).v = .slice As nO c2 from by unfold Oj.v; rw [List.length_map, HPL.out]]; exact hS8)
  rw [hrn] at CB ⊢
  have HCB := hide CB
  clear hS6 hS7 hS8 hP5 j1 CB HCT HS5 HX
  go_wp2_with fail
  refine HCB.out.mono ?_
  rintro e w6 ⟨⟨u, rfl⟩, b, hS9⟩
  have hS9' : Sep No w w6 ([blkI g 27 #[.slice AO nO cO, .slice AR nR cR], blkI (g + 1) 85 #[.slice none 0 0, .slice none 0 0, .int .i64 0, .int .i64 0, .int .i64 0]] ++ rpR Be (rpS [p0, p1, p2, p3, p4, p5, p6, p7] As c2 ps A0 c0 b)) := Sep.split hS9
  obtain ⟨l1, l2, l3, _⟩ := hS9'.rules 0 (g := g) (t := 27) rfl
  have l5 := (l1 0).trans (show _ = some (.slice AO nO cO) from rfl)
  have l6 := (l1 1).trans (show _ = some (.slice AR nR cR) from rfl)
  have CI2 := hide (CI.out _ hS9'.below_)
  have HT0 := hide (show (rpS [p0, p1, p2, p3, p4, p5, p6, p7] As c2 ps A0 c0 b).a = (rpRun (ds.take 0) (rp0 σ0)).2 from by
    rw [rpS_a, HPF.out, ← HSG.out, HPV.out]; rfl)
  generalize ht0 : rpS [p0, p1, p2, p3, p4, p5, p6, p7] As c2 ps A0 c0 b = t0 at HT0 hS9'
  have HTR := hide (show t0.regs = [p0, p1, p2, p3, p4, p5, p6, p7] from by rw [← ht0]; rfl)
  have HS9 := hide hS9'
  clear hS9 hS9' l1 CI HCB ht0 j2 j3 j5
  go_wp2_with fail
  refine CI2.out.mono ?_
  rintro e w7 ⟨rfl, hb7⟩
  obtain ⟨Bm, hBm⟩ : ∃ x, w7.heap.size = x := ⟨_, rfl⟩
  have hSa := ((HS9.out.below hb7).blkAtF 113 #[.bool p0.1, .int .i64 p0.2, .bool p1.1, .int .i64 p1.2, .bool p2.1, .int .i64 p2.2, .bool p3.1, .int .i64 p3.2, .bool p4.1, .int .i64 p4.2, .bool p5.1, .int .i64 p5.2, .bool p6.1, .int .i64 p6.2, .bool p7.1, .int .i64 p7.2, .iface 186 (.pointer (some ⟨Be, 0, none⟩))] hBm).blkAtF 85 #[.slice none 0 0, .slice none 0 0, .int .i64 0, .int .i64 0, .int .i64 0] (g := Bm + 1) (by simp [hBm])
  have hSb := hSa.nilRow0 41 3
  have eM : rpM Be Bm t0 = blkI Bm 113 #[.bool p0.1, .int .i64 p0.2, .bool p1.1, .int .i64 p1.2, .bool p2.1, .int .i64 p2.2, .bool p3.1, .int .i64 p3.2, .bool p4.1, .int .i64 p4.2, .bool p5.1, .int .i64 p5.2, .bool p6.1, .int .i64 p6.2, .bool p7.1, .int .i64 p7.2, .iface 186 (.pointer (some ⟨Be, 0, none⟩))] := by unfold rpM; rw [HTR.out]; rfl
  rw [← eM] at hSb
  obtain ⟨Y, hY⟩ : ∃ Y, (w7.alloc (.cells #[.bool p0.1, .int .i64 p0.2, .bool p1.1, .int .i64 p1.2, .bool p2.1, .int .i64 p2.2, .bool p3.1, .int .i64 p3.2, .bool p4.1, .int .i64 p4.2, .bool p5.1, .int .i64 p5.2, .bool p6.1, .int .i64 p6.2, .bool p7.1, .int .i64 p7.2, .iface 186 (.pointer (some ⟨Be, 0, none⟩))] 113)).alloc (.cells #[.slice none 0 0, .slice none 0 0, .int .i64 0, .int .i64 0, .int .i64 0] 85) = Y := ⟨_, rfl⟩
  rw [hY] at hSb
  have hSc := rp_start hSb
  have HSC := hide hSc
  have HY := hide hY
  clear hSa hSb eM hY hSc HS9 hb7 CI2 l2 l3 l5 l6
  go_wp2_with fail
  rw [HY.out]
  go_loopw [45] (fun i wr => ∃ (k : Nat) (A : Option Addr) (c : Nat) (t : RpT), k ≤ nd ∧ i = .int .i64 k ∧ Hid (t.a = (rpRun (ds.take k) (rp0 σ0)).2) ∧
    Sep No w wr ((rpKm Bm Be).item t :: [blkI (Bm + 1) 85 #[.slice A k c, .slice none 0 0, .int .i64 0, .int .i64 0, .int .i64 0], rowI 41 3 A k c (outsV (rpRun (ds.take k) (rp0 σ0)).1), blkI g 27 #[.slice AO nO cO, .slice AR nR cR], blkI (g + 1) 85 #[.slice none 0 0, .slice none 0 0, .int .i64 0, .int .i64 0, .int .i64 0]])) (fun i _ => nd - (intOf i).toNat)
  case atStart => exact ⟨0, none, 0, t0, by omega, rfl, HT0.out, HSC.out⟩
  case round =>
    clear HSC HT0 HTR HY
    obtain ⟨k, A, c', t, hk, rfl, HA, hS⟩ := hrel
    by_cases hlt : k < nd
    · have hkl : k < ds.length := by rw [HDL.out]; exact hlt
      obtain ⟨-, -, ok0, on, -, ol, otm⟩ := HAT.out k (by omega)
      have onm := HNM.out k (by omega)
      rw [← HA.out] at ok0 on ol otm onm
      have o1 : t.a.objs.length < 500 := by have h1 : (rp0 σ0).objs.length = nO := by show (σ0.objs.map some).length = nO; rw [List.length_map]; exact HSO.out
                                            omega
      have o2 : t.a.log.length ≤ 900 := by have h1 : (rp0 σ0).log.length = 0 := rfl; omega
      have o3 : t.a.times ≤ 100000 := by have h1 : (rp0 σ0).times = 0 := rfl; omega
      obtain ⟨v0, v1, v2, v3, v4⟩ := dosV_at ds k hkl
      obtain ⟨ad, hA, _, had, hc, hd⟩ := (hD.below hS.below_).atN hlt
      have e0 := hc _ v0
      have e1 := hd 0 _ v1
      have e2 := hd 1 _ v2
      have e3 := hd 2 _ v3
      have e4 := hd 3 _ v4
      have hrs := rpRun_at ds (rp0 σ0) k hkl
      rw [← HA.out] at hrs
      obtain ⟨d, hd'⟩ : ∃ d, ds[k] = d := ⟨_, rfl⟩
      rw [hd'] at e0 e1 e2 e3 e4 hrs
      obtain ⟨gd, hgd⟩ : ∃ x, wr.heap.size = x := ⟨_, rfl⟩
      have hS2 := (hS.blkAt 39 d.cells hgd).blkAt 41 #[.int .i64 0, .bool false, .int .i64 0] (g := gd + 1) (by simp [hgd])
      have hgO := hS.hi 1 rfl (Bm + 1) rfl
      have n1 : Bm + 1 ≠ gd := by omega
      have n2 : Bm + 1 ≠ gd + 1 := by omega
      have n3 : gd ≠ Bm + 1 := by omega
      have n4 : gd + 1 ≠ Bm + 1 := by omega
      have n5 : gd + 1 ≠ gd := by omega
      have n6 : gd ≠ gd + 1 := by omega
      obtain ⟨gO, hgOe⟩ : ∃ q, Bm + 1 = q := ⟨_, rfl⟩
      rw [hgOe] at n1 n2 n3 n4 hgO hS2 ⊢
      subst hA
      by_cases h8 : d.k = 8
      · obtain ⟨q0, q1, q2, q3, q4, q5, q6, q7, hq⟩ := len8 (show t.regs.length = 8 from ok0.r8)
        have CW := hide (rpwork_km hS2 ok0 onm (by omega) (by omega) o3 q0 q1 q2 q3 q4 q5 q6 q7 hq)
        obtain ⟨d0, d1, d2, d3, d4, d5, d6, d7, d8, d9, d10, d11, d12, d13, d14, d15, d16⟩ := rp_sel (hS2.get 0 rfl) hq
        have hst : rpStep d t.a = (⟨0, false, 0⟩, t.a.work) := by unfold rpStep; rw [if_pos h8]
        rw [hst] at hrs
        have HRS := hide hrs
        have HS2 := hide hS2
        obtain ⟨dk, dto, dfr, dat, dn⟩ := d
        dsimp only at h8 e0 e1 e2 e3 e4
        subst h8
        clear hrs hS2 hS hc hd v0 v1 v2 v3 v4 hd' hst ok0 on onm ol otm o1 o2 o3
        unfold DoV.cells at CW HS2 d0 d1 d2 d3 d4 d5 d6 d7 d8 d9 d10 d11 d12 d13 d14 d15 d16
        go_wp2_with fail
        refine CW.out.mono ?_
        rintro e w4 ⟨⟨u, rfl⟩, t', hcw, hS4⟩
        obtain ⟨u1, u2, u3, -⟩ := hS4.rules 1 (g := gO) (t := 85) rfl
        have u5 := (u1 0).trans (show _ = some (.slice A k c') from rfl)
        obtain ⟨x1, x2, x3, -⟩ := hS4.rules 6 (g := gd + 1) (t := 41) rfl
        have x5 := (x1 0).trans (show _ = some (.int .i64 0) from rfl)
        have x6 := (x1 1).trans (show _ = some (.bool false) from rfl)
        have x7 := (x1 2).trans (show _ = some (.int .i64 0) from rfl)
        have hrs := HRS.out
        rw [← hcw] at hrs
        have HRS := hide hrs
        have HS5 := hide hS4
        clear hS4 HS2 CW u1 x1 hrs hcw d0 d1 d2 d3 d4 d5 d6 d7 d8 d9 d10 d11 d12 d13 d14 d15 d16
        go_wp2_with (first
          | (at_builtin
             refine wpList_app1 (cs := #[.int .i64 0, .bool false, .int .i64 0]) rfl (.tmp 63) (.tmp 65) 23 rfl (F := No) (W := w) sOut (items := _ :: _ :: _ :: _ :: _) HS5.out 2 (n := k) rfl rfl rfl (by simp) rfl rfl (by omega) ?_
             intro A6 c6 w6 hS6 hC6
             obtain ⟨u1, u2, u3, -⟩ := hS6.rules 1 (g := gO) (t := 85) rfl))
        have hS7 := hS6.set_ 1 (g := gO) (t := 85) rfl 0 (.slice A6 (k + 1) c6)
        have HS7 := hide (hS7.sub (l := [_, _, _, _, _]) (List.sublist_append_left [_, _, _, _, _] [_, _]))
        clear hS6 hC6 hS7 u1 HS5
        go_roundw
        case rel => exact ⟨k + 1, A6, c6, t', by omega, by go_num, by rw [HRS.out]; exact hide rfl, by
          rw [HRS.out]
          dsimp only
          rw [outsV_app, outsV_one]
          exact HS7.out⟩
        case measure => simp [intOf]; omega
      · have CD := rpdo_any hS2 ok0 o1 o2 d
        have hst : rpStep d t.a = rpDo d t.a := by unfold rpStep; rw [if_neg h8]
        rw [hst] at hrs
        have HRS := hide hrs
        have HCD := hide CD
        obtain ⟨dk, dto, dfr, dat, dn⟩ := d
        dsimp only at h8 e0 e1 e2 e3 e4
        have y8 : (dk == 8) = false := by simp [h8]
        clear hrs hS2 hS hc hd v0 v1 v2 v3 v4 hd' hst ok0 on onm ol otm o1 o2 o3 CD h8
        unfold DoV.cells at HCD
        go_wp2_with fail
        refine HCD.out.mono ?_
        rintro e w4 ⟨oc, orf, on, t', rfl, hcw, hS4⟩
        obtain ⟨u1, u2, u3, -⟩ := hS4.rules 1 (g := gO) (t := 85) rfl
        have u5 := (u1 0).trans (show _ = some (.slice A k c') from rfl)
        obtain ⟨x1, x2, x3, -⟩ := hS4.rules 6 (g := gd + 1) (t := 41) rfl
        have x5 := (x1 0).trans (show _ = some (.int .i64 0) from rfl)
        have x6 := (x1 1).trans (show _ = some (.bool false) from rfl)
        have x7 := (x1 2).trans (show _ = some (.int .i64 0) from rfl)
        have hrs := HRS.out
        rw [hcw] at hrs
        have HRS := hide hrs
        have HS5 := hide (((hS4.set_ 6 (g := gd + 1) (t := 41) rfl 0 (.int .i64 oc)).set_ 6 (g := gd + 1) (t := 41) rfl 1 (.bool orf)).set_ 6 (g := gd + 1) (t := 41) rfl 2 (.int .i64 on))
        clear hS4 HCD u1 x1 hrs hcw
        go_wp2_with (first
          | (at_builtin
             refine wpList_app1 (cs := #[.int .i64 oc, .bool orf, .int .i64 on]) rfl (.tmp 63) (.tmp 65) 23 rfl (F := No) (W := w) sOut (items := _ :: _ :: _ :: _ :: _) HS5.out 2 (n := k) rfl rfl rfl (by simp) rfl rfl (by omega) ?_
             intro A6 c6 w6 hS6 hC6
             obtain ⟨u1, u2, u3, -⟩ := hS6.rules 1 (g := gO) (t := 85) rfl))
        have hS7 := hS6.set_ 1 (g := gO) (t := 85) rfl 0 (.slice A6 (k + 1) c6)
        have HS7 := hide (hS7.sub (l := [_, _, _, _, _]) (List.sublist_append_left [_, _, _, _, _] [_, _]))
        clear hS6 hC6 hS7 u1 HS5
        go_roundw
        case rel => exact ⟨k + 1, A6, c6, t', by omega, by go_num, by rw [HRS.out]; exact hide rfl, by
          rw [HRS.out]
          dsimp only
          rw [outsV_app, outsV_one]
          exact HS7.out⟩
        case measure => simp [intOf]; omega
    · obtain rfl : k = nd := by omega
      rw [List.take_of_length_le (by rw [HDL.out]; exact Nat.le_refl _)] at HA hS
      obtain ⟨-, k2, -, k4, k5, k6, k7, -, k8⟩ := rp_cells (pre := [_]) (pkm_flat (hS.get 0 rfl))
      obtain ⟨o1, o2, o3, -⟩ := hS.rules 1 (g := Bm + 1) (t := 85) rfl
      obtain ⟨y1, y2, y3, -⟩ := hS.rules 4 (g := g + 1) (t := 85) rfl
      have q0 := (y1 0).trans (show _ = some (.slice none 0 0) from rfl)
      have q1 := (y1 1).trans (show _ = some (.slice none 0 0) from rfl)
      have q2 := (y1 2).trans (show _ = some (.int .i64 0) from rfl)
      have q3 := (y1 3).trans (show _ = some (.int .i64 0) from rfl)
      have q4 := (y1 4).trans (show _ = some (.int .i64 0) from rfl)
      have z0 := (o1 0).trans (show _ = some (.slice A k c') from rfl)
      have z1 := (o1 1).trans (show _ = some (.slice none 0 0) from rfl)
      have z2 := (o1 2).trans (show _ = some (.int .i64 0) from rfl)
      have z3 := (o1 3).trans (show _ = some (.int .i64 0) from rfl)
      have z4 := (o1 4).trans (show _ = some (.int .i64 0) from rfl)
      have n1 : Bm + 1 ≠ Be := fun e => hS.other (a := 1) (b := 0) rfl rfl (by decide) (Bm + 1) rfl (by
        rw [e]; exact ⟨blkI Be 190 (rpC t), by simp [MemK.items, rpKm, rpR], rfl⟩)
      have n2 : Be ≠ Bm + 1 := fun e => n1 e.symm
      have n3 : g + 1 ≠ Bm + 1 := fun e => hS.other (a := 4) (b := 1) rfl rfl (by decide) (g + 1) rfl (by rw [e]; rfl)
      have n4 : Bm + 1 ≠ g + 1 := fun e => n3 e.symm
      have HS := hide hS
      obtain ⟨gO, hgOe⟩ : ∃ q, Bm + 1 = q := ⟨_, rfl⟩
      rw [hgOe] at n1 n2 n3 n4 z0 z1 z2 z3 z4 o2 o3 ⊢
      obtain ⟨aR, haR⟩ : ∃ q, t.Ar = q := ⟨_, rfl⟩
      obtain ⟨cR', hcR⟩ : ∃ q, t.cr = q := ⟨_, rfl⟩
      obtain ⟨nr, hnr⟩ : ∃ q, t.row.length = q := ⟨_, rfl⟩
      obtain ⟨nm, hnm⟩ : ∃ q, t.cps.length = q := ⟨_, rfl⟩
      obtain ⟨nl, hnl⟩ : ∃ q, t.log.length = q := ⟨_, rfl⟩
      obtain ⟨tm, htm⟩ : ∃ q, t.times = q := ⟨_, rfl⟩
      rw [haR, hcR, hnr] at k2
      rw [hnm] at k4
      rw [hnl] at k6
      rw [htm] at k7
      have HFI := hide (And.intro hnm (And.intro hnl htm))
      have HRO := hide (And.intro haR (And.intro hcR hnr))
      clear hS o1 y1 haR hcR hnr hnm hnl htm
      go_wp2_with fail
      go_region_held3 (fun w' => w'.cell? ⟨Be, 1, none⟩ = some (.slice aR nr cR') ∧ w'.cell? ⟨Be, 3, none⟩ = some (.slice t.Am nm t.cm) ∧ w'.cell? ⟨Be, 5, none⟩ = some (.slice t.Al nl t.cl) ∧ w'.cell? ⟨Be, 6, none⟩ = some (.int .i64 tm)) (first | go_keep | (simp only [World.cell?_drew]; assumption) | assumption) (fail)
      all_goals
        go_wp2_with fail
        have hF := (((((((((HS.out.set_ 1 (g := gO) (t := 85) (by rw [← hgOe]; rfl) 1 (.slice aR nr cR')).set_ 1 (g := gO) (t := 85) rfl 2 (.int .i64 nm)).set_ 1 (g := gO) (t := 85) rfl 3 (.int .i64 nl)).set_ 1 (g := gO) (t := 85) rfl 4 (.int .i64 tm)).set_ 4 (g := g + 1) (t := 85) rfl 0 (.slice A k c')).set_ 4 (g := g + 1) (t := 85) rfl 1 (.slice aR nr cR')).set_ 4 (g := g + 1) (t := 85) rfl 2 (.int .i64 nm)).set_ 4 (g := g + 1) (t := 85) rfl 3 (.int .i64 nl)).set_ 4 (g := g + 1) (t := 85) rfl 4 (.int .i64 tm)).drew
        obtain ⟨x1, -, -, -⟩ := hF.rules 4 (g := g + 1) (t := 85) rfl
        have hrow := (Sep.split (l := (rpKm Bm Be).items t) hF).rd 3 (show _ = some (rowI 3 1 t.Ar t.row.length t.cr (ints t.row)) from rfl)
        rw [HRO.out.1, HRO.out.2.2] at hrow
        refine bodyPost_ret (v := .tuple #[.agg #[.slice A k c', .slice aR nr cR', .int .i64 nm, .int .i64 nl, .int .i64 tm], .int .i64 0]) (by simp [results, Try.results36, go_sem, x1]) rfl ⟨A, c', aR, nr, cR', ?_, hF.below_, hF.rd 2 rfl, ?_⟩
        · rw [← HA.out, ← HFI.out.1, ← HFI.out.2.1, ← HFI.out.2.2, show t.a.cps.length = t.cps.length from by show (cpP t.cps).length = _; unfold cpP; rw [List.length_map]]
          rfl
        · rw [← HA.out]
          exact hrow
end Go.Proofs.Ytjphckfbbiehdaa
