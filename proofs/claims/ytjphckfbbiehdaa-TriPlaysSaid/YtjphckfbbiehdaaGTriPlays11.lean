/- The reference's Tri: a round, where the deed is Do. The reference's Tri: a script on its memory with colours. The walk of the law on a memory with colours. -/
import Derived.Test.YtjphckfbbiehdaaGTriPlays10
import Derived.Test.YtjphckfbbiehdaaGTriPlays7
import Derived.Test.YtjphckfbbiehdaaGTriPlays8
import Derived.Test.YtjphckfbbiehdaaGIdealPlays20
set_option linter.unusedSimpArgs false
set_option linter.unusedVariables false
namespace Go.Proofs.Ytjphckfbbiehdaa
open Go.RowKit

set_option maxRecDepth 1000000 in
set_option maxHeartbeats 64000000 in
theorem rt_caseDo {w wr : World} {AO AR Ad : Option Addr} {nO cO nR cR nd cd q g Bs gO : Nat} {ds : List DoV} {σ0 : MSt} {k c c3 : Nat} {A A3 : Option Addr} {s : SdS} {gl : List Int} {u10 u11 u13 u14 u16 u17 u34 u35 u36 u37 u38 u39 u40 u41 u42 u43 u44 u45 u46 u47 u48 u49 u50 u51 u52 u53 u54 u55 u56 u57 u58 u59 u60 u61 u62 u63 u64 u65 u66 u67 u68 u69 u70 u71 u72 u73 u74 u75 u76 u77 u78 u79 u80 u81 u82 u83 u84 u85 u86 u87 u88 u89 u90 u91 u92 u93 u94 u95 u96 u97 u98 u99 u100 u101 u102 u103 u104 u105 u106 u107 u108 u109 u110 u111 u112 u113 u114 u115 u116 u117 u118 u119 u120 u121 u122 u123 u124 u125 u126 u127 u128 u129 u130 u131 u132 u133 u134 u135 u136 u137 u138 u139 u140 u141 u142 u143 u144 u145 u146 u147 u148 u149 u150 u151 u152 u153 u154 u155 u156 u157 u158 u159 u160 u161 u162 u163 u164 u165 u166 u167 u168 u169 u170 u171 u172 u173 u174 u175 u176 u177 u178 u179 u180 u181 u182 u183 u184 u185 u186 u187 u188 u189 u190 u191 u192 u193 u194 u195 u196 u197 u198 u19 u20 u21 u22 u23 u24 u25 u26 u27 u : Value} {Q0 : Exit → Act → World → Prop} (hg : w.heap.size = g) (hnd : nd ≤ 100) (HDL : Hid (ds.length = nd)) (HQ : Hid (q = 1 ∨ q = 2 ∨ q = 3)) (hD : Rd w (fun _ => True) 5 Ad nd (dosV ds))
    (HAT : Hid (∀ k, k ≤ ds.length → RtOk q (rtRun q (ds.take k) (rt0 σ0)).2 ∧ (rtRun q (ds.take k) (rt0 σ0)).2.σ.objs.length ≤ 24 + k ∧ (rtRun q (ds.take k) (rt0 σ0)).1.length = k ∧ (rtRun q (ds.take k) (rt0 σ0)).2.gl.length ≤ k * 200))
    (hk : k ≤ nd) (hlt : k < nd) (HI : Hid (s.t gl = (rtRun q (ds.take k) (rt0 σ0)).2 ∧ s.q = (q : Int)))
    (hS : Sep No w wr [sdI Bs s, blkI gO 94 #[.slice A k c, .slice none 0 0, .slice A3 gl.length c3], rowI 41 3 A k c (outsV (rtRun q (ds.take k) (rt0 σ0)).1), rowI 3 1 A3 gl.length c3 (ints gl), blkI g 27 #[.slice AO nO cO, .slice AR nR cR], blkI (g + 1) 94 #[.slice none 0 0, .slice none 0 0, .slice none 0 0]])
    (hkl : k < ds.length) (hd9 : ds[k].k ≠ 9) (hd8 : ds[k].k ≠ 8) :
    Code.wp Try.prog triBody (Exit.then (fun a' w' => (∃ u10 u11 u13 u14 u16 u17 u33 u34 u35 u36 u37 u38 u39 u40 u41 u42 u43 u44 u45 u46 u47 u48 u49 u50 u51 u52 u53 u54 u55 u56 u57 u58 u59 u60 u61 u62 u63 u64 u65 u66 u67 u68 u69 u70 u71 u72 u73 u74 u75 u76 u77 u78 u79 u80 u81 u82 u83 u84 u85 u86 u87 u88 u89 u90 u91 u92 u93 u94 u95 u96 u97 u98 u99 u100 u101 u102 u103 u104 u105 u106 u107 u108 u109 u110 u111 u112 u113 u114 u115 u116 u117 u118 u119 u120 u121 u122 u123 u124 u125 u126 u127 u128 u129 u130 u131 u132 u133 u134 u135 u136 u137 u138 u139 u140 u141 u142 u143 u144 u145 u146 u147 u148 u149 u150 u151 u152 u153 u154 u155 u156 u157 u158 u159 u160 u161 u162 u163 u164 u165 u166 u167 u168 u169 u170 u171 u172 u173 u174 u175 u176 u177 u178 u179 u180 u181 u182 u183 u184 u185 u186 u187 u188 u189 u190 u191 u192 u193 u194 u195 u196 u197 u198 : Value, (∃ (k : Nat) (A : Option Addr) (c : Nat) (s : SdS) (A3 : Option Addr) (c3 : Nat) (gl : List Int), k ≤ nd ∧ u33 = .int .i64 k ∧ Hid (s.t gl = (rtRun q (ds.take k) (rt0 σ0)).2 ∧ s.q = (q : Int)) ∧
      Sep No w w' [sdI Bs s, blkI gO 94 #[.slice A k c, .slice none 0 0, .slice A3 gl.length c3], rowI 41 3 A k c (outsV (rtRun q (ds.take k) (rt0 σ0)).1), rowI 3 1 A3 gl.length c3 (ints gl), blkI g 27 #[.slice AO nO cO, .slice AR nR cR], blkI (g + 1) 94 #[.slice none 0 0, .slice none 0 0, .slice none 0 0]]) ∧ a' = ⟨#[.agg #[.slice AO nO cO, .slice AR nR cR], .int .i64 q, .slice Ad nd cd, .pointer (some ⟨g, 0, none⟩), undef, undef, .pointer (some ⟨g + 1, 0, none⟩), .pointer (some ⟨Bs, 0, none⟩), .pointer (some ⟨gO, 0, none⟩), undef, u10, u11, undef, u13, u14, undef, u16, u17, undef, u19, u20, u21, u22, u23, u24, u25, u26, u27, .pointer (some ⟨Bs, 0, none⟩), u, .agg #[.slice none 0 0, .slice none 0 0, .slice none 0 0], .slice Ad nd cd, .int .i64 nd, u33, u34, u35, u36, u37, u38, u39, u40, u41, u42, u43, u44, u45, u46, u47, u48, u49, u50, u51, u52, u53, u54, u55, u56, u57, u58, u59, u60, u61, u62, u63, u64, u65, u66, u67, u68, u69, u70, u71, u72, u73, u74, u75, u76, u77, u78, u79, u80, u81, u82, u83, u84, u85, u86, u87, u88, u89, u90, u91, u92, u93, u94, u95, u96, u97, u98, u99, u100, u101, u102, u103, u104, u105, u106, u107, u108, u109, u110, u111, u112, u113, u114, u115, u116, u117, u118, u119, u120, u121, u122, u123, u124, u125, u126, u127, u128, u129, u130, u131, u132, u133, u134, u135, u136, u137, u138, u139, u140, u141, u142, u143, u144, u145, u146, u147, u148, u149, u150, u151, u152, u153, u154, u155, u156, u157, u158, u159, u160, u161, u162, u163, u164, u165, u166, u167, u168, u169, u170, u171, u172, u173, u174, u175, u176, u177, u178, u179, u180, u181, u182, u183, u184, u185, u186, u187, u188, u189, u190, u191, u192, u193, u194, u195, u196, u197, u198, undef, undef, undef, undef, undef, undef, undef, undef, undef, undef, undef, undef, undef, undef, undef, undef, undef, undef, undef, undef, undef, undef, undef, undef, undef, undef, undef, undef, undef, undef, undef, undef, undef, undef, undef], []⟩) ∧ nd - (intOf (a'.tmps.getD 33 undef)).toNat < nd - (intOf (#[.agg #[.slice AO nO cO, .slice AR nR cR], .int .i64 q, .slice Ad nd cd, .pointer (some ⟨g, 0, none⟩), undef, undef, .pointer (some ⟨g + 1, 0, none⟩), .pointer (some ⟨Bs, 0, none⟩), .pointer (some ⟨gO, 0, none⟩), undef, u10, u11, undef, u13, u14, undef, u16, u17, undef, u19, u20, u21, u22, u23, u24, u25, u26, u27, .pointer (some ⟨Bs, 0, none⟩), u, .agg #[.slice none 0 0, .slice none 0 0, .slice none 0 0], .slice Ad nd cd, .int .i64 nd, .int .i64 k, u34, u35, u36, u37, u38, u39, u40, u41, u42, u43, u44, u45, u46, u47, u48, u49, u50, u51, u52, u53, u54, u55, u56, u57, u58, u59, u60, u61, u62, u63, u64, u65, u66, u67, u68, u69, u70, u71, u72, u73, u74, u75, u76, u77, u78, u79, u80, u81, u82, u83, u84, u85, u86, u87, u88, u89, u90, u91, u92, u93, u94, u95, u96, u97, u98, u99, u100, u101, u102, u103, u104, u105, u106, u107, u108, u109, u110, u111, u112, u113, u114, u115, u116, u117, u118, u119, u120, u121, u122, u123, u124, u125, u126, u127, u128, u129, u130, u131, u132, u133, u134, u135, u136, u137, u138, u139, u140, u141, u142, u143, u144, u145, u146, u147, u148, u149, u150, u151, u152, u153, u154, u155, u156, u157, u158, u159, u160, u161, u162, u163, u164, u165, u166, u167, u168, u169, u170, u171, u172, u173, u174, u175, u176, u177, u178, u179, u180, u181, u182, u183, u184, u185, u186, u187, u188, u189, u190, u191, u192, u193, u194, u195, u196, u197, u198, undef, undef, undef, undef, undef, undef, undef, undef, undef, undef, undef, undef, undef, undef, undef, undef, undef, undef, undef, undef, undef, undef, undef, undef, undef, undef, undef, undef, undef, undef, undef, undef, undef, undef, undef].getD 33 undef)).toNat) Q0) ⟨#[.agg #[.slice AO nO cO, .slice AR nR cR], .int .i64 q, .slice Ad nd cd, .pointer (some ⟨g, 0, none⟩), undef, undef, .pointer (some ⟨g + 1, 0, none⟩), .pointer (some ⟨Bs, 0, none⟩), .pointer (some ⟨gO, 0, none⟩), undef, u10, u11, undef, u13, u14, undef, u16, u17, undef, u19, u20, u21, u22, u23, u24, u25, u26, u27, .pointer (some ⟨Bs, 0, none⟩), u, .agg #[.slice none 0 0, .slice none 0 0, .slice none 0 0], .slice Ad nd cd, .int .i64 nd, .int .i64 k, u34, u35, u36, u37, u38, u39, u40, u41, u42, u43, u44, u45, u46, u47, u48, u49, u50, u51, u52, u53, u54, u55, u56, u57, u58, u59, u60, u61, u62, u63, u64, u65, u66, u67, u68, u69, u70, u71, u72, u73, u74, u75, u76, u77, u78, u79, u80, u81, u82, u83, u84, u85, u86, u87, u88, u89, u90, u91, u92, u93, u94, u95, u96, u97, u98, u99, u100, u101, u102, u103, u104, u105, u106, u107, u108, u109, u110, u111, u112, u113, u114, u115, u116, u117, u118, u119, u120, u121, u122, u123, u124, u125, u126, u127, u128, u129, u130, u131, u132, u133, u134, u135, u136, u137, u138, u139, u140, u141, u142, u143, u144, u145, u146, u147, u148, u149, u150, u151, u152, u153, u154, u155, u156, u157, u158, u159, u160, u161, u162, u163, u164, u165, u166, u167, u168, u169, u170, u171, u172, u173, u174, u175, u176, u177, u178, u179, u180, u181, u182, u183, u184, u185, u186, u187, u188, u189, u190, u191, u192, u193, u194, u195, u196, u197, u198, undef, undef, undef, undef, undef, undef, undef, undef, undef, undef, undef, undef, undef, undef, undef, undef, undef, undef, undef, undef, undef, undef, undef, undef, undef, undef, undef, undef, undef, undef, undef, undef, undef, undef, undef], []⟩ wr := by
  conv => arg 2; whnf
  obtain ⟨hrt, hol, _, hgl⟩ := HAT.out k (by have := HDL.out; omega)
  rw [← HI.out.1] at hrt hol hgl
  have hgl2 : gl.length ≤ 100000 := by have h1 : (s.t gl).gl.length = gl.length := rfl; omega
  obtain ⟨hok, hcl, hgc2⟩ := sd_ok hrt (by omega)
  have HOK := hide hok
  have HCL := hide hcl
  have HGC := hide hgc2
  have HRT := hide hrt
  have hcn : s.cols.length ≤ 500 := by have := hok.n; omega
  have HCN := hide hcn
  have hon : s.m.obs.length ≤ 500 := hok.n
  have hr8 : s.m.regs.length = 8 := hok.m.r8
  have HR8 := hide hr8
  have HVR := hide (fun v (hv : v ∈ s.m.regs) => show vin s.cols.length v from fun h1 => by
    obtain ⟨h2, h3⟩ := hok.m.vr v hv h1
    obtain ⟨z, hz⟩ := int_nat h2
    have hps : (absR s.m).objs.length = s.m.obs.length := by simp [absR]
    exact ⟨z, hz, by omega⟩)
  have HVO := hide (fun (i : Nat) (hi : i < s.m.obs.length) v (hv : v ∈ s.m.obs[i].fields) => show vin s.cols.length v from fun h1 => by
    obtain ⟨h2, h3⟩ := hok.m.vo _ (List.mem_map.2 ⟨s.m.obs[i], List.getElem_mem hi, rfl⟩) v hv h1
    obtain ⟨z, hz⟩ := int_nat h2
    have hps : (absR s.m).objs.length = s.m.obs.length := by simp [absR]
    exact ⟨z, hz, by omega⟩)
  clear hrt hok hcl hgc2 hol hgl hr8
  obtain ⟨v0, v1, v2, v3, v4⟩ := dosV_at ds k hkl
  obtain ⟨ad, hA, _, had, hc, hd⟩ := (hD.below hS.below_).atN hlt
  have e0 := hc _ v0
  have e1 := hd 0 _ v1
  have e2 := hd 1 _ v2
  have e3 := hd 2 _ v3
  have e4 := hd 3 _ v4
  have hrs := rtRun_at q ds (rt0 σ0) k hkl
  rw [← HI.out.1] at hrs
  obtain ⟨d, hd'⟩ : ∃ d, ds[k] = d := ⟨_, rfl⟩
  rw [hd'] at e0 e1 e2 e3 e4 hrs
  obtain ⟨gd, hgd⟩ : ∃ x, wr.heap.size = x := ⟨_, rfl⟩
  have hS2 := (hS.blkAt 39 d.cells hgd).blkAt 41 #[.int .i64 0, .bool false, .int .i64 0] (g := gd + 1) (by simp [hgd])
  have hgO := hS.hi 1 rfl gO rfl
  have n1 : gO ≠ gd := by omega
  have n2 : gO ≠ gd + 1 := by omega
  have n3 : gd ≠ gO := by omega
  have n4 : gd + 1 ≠ gO := by omega
  have n5 : gd + 1 ≠ gd := by omega
  have n6 : gd ≠ gd + 1 := by omega
  have hBs := hS.hi 0 rfl Bs ⟨_, List.mem_cons_self .., rfl⟩
  have n7 : Bs ≠ gd := by omega
  have n8 : Bs ≠ gd + 1 := by omega
  have n9 : gd ≠ Bs := by omega
  have n10 : gd + 1 ≠ Bs := by omega
  have n16 : gO ≠ Bs := fun e => hS.other (a := 1) (b := 0) rfl rfl (by omega) gO rfl ⟨blkI Bs 218 (sdC s), by simp [sdR], e⟩
  have n17 : Bs ≠ gO := fun e => n16 e.symm
  subst hA
  have h9 : ¬ d.k = 9 := by rw [← hd']; exact hd9
  have h8 : ¬ d.k = 8 := by rw [← hd']; exact hd8
  clear hd8 hd9
  have CWR := fun (X : World) (h : (rmI s.Bm s.m).P X) => rwrong_any h HOK.out d
  have CDO := fun (X : World) (h : (rmI s.Bm s.m).P X) (hw : rWrong d (absR s.m) = 0) => rdo_any h HOK.out d hw
  have CBA := fun (X : World) (h : (sdI Bs s).P X) (hw : rWrong d (absR s.m) = 0) => rbars_any HQ.out h HI.out.2 HOK.out HCL.out d hw gl
  have hst : rtStep q d (s.t gl) = (if rWrong d (absR s.m) ≠ 0 then (⟨rWrong d (absR s.m), false, 0⟩, s.t gl) else if d.k = 1 ∧ 24 ≤ (thereG s.m.gone).length then (⟨6, false, 0⟩, s.t gl)
      else ((stepK d (absR s.m)).1, ⟨(stepK d (absR s.m)).2, if d.k = 1 then s.m.gone ++ [false] else s.m.gone, if d.k = 1 then s.cols ++ [2] else rtBars q d (s.t gl), gl⟩)) := by
    unfold rtStep
    rw [if_neg h8, if_neg h9]
    rfl
  rw [hst] at hrs
  obtain ⟨CB, hCB⟩ : ∃ x, rtBars q d (s.t gl) = x := ⟨_, rfl⟩
  have HCBB := hide hCB
  have HCB := hide (show CB.length = s.cols.length from by
    rw [← hCB]; unfold rtBars
    split
    · exact (barOf_ok q).len _ _ _ _
    · rfl)
  obtain ⟨p, hp⟩ : ∃ p, stepK d (absR s.m) = p := ⟨_, rfl⟩
  obtain ⟨⟨oc, orf, on⟩, σ'⟩ := p
  simp only [RDoOk, hp, OutV.val] at CDO
  simp only [hCB] at CBA
  rw [hp, hCB] at hrs
  dsimp only at hrs
  unfold DoV.cells at hS2 CWR CDO CBA
  obtain ⟨x, hx⟩ : ∃ x, rWrong d (absR s.m) = x := ⟨_, rfl⟩
  have HX := hide hx
  simp only [hx] at CWR
  rw [hx] at hrs
  have y8 : (d.k == 8) = false := by simp [h8]
  have y9 : (d.k == 9) = false := by simp [h9]
  obtain ⟨dk, hdk⟩ : ∃ x, d.k = x := ⟨_, rfl⟩
  have HDK := hide hdk
  rw [hdk] at e0 hS2 y8 y9 hrs h8 h9
  simp only [hdk] at CWR CDO CBA
  obtain ⟨dto, hdto⟩ : ∃ x, d.to = x := ⟨_, rfl⟩
  obtain ⟨dfr, hdfr⟩ : ∃ x, d.fr = x := ⟨_, rfl⟩
  obtain ⟨dat, hdat⟩ : ∃ x, d.at_ = x := ⟨_, rfl⟩
  obtain ⟨dn, hdn⟩ : ∃ x, d.n = x := ⟨_, rfl⟩
  rw [hdto] at e1 hS2
  rw [hdfr] at e2 hS2
  rw [hdat] at e3 hS2
  rw [hdn] at e4 hS2
  simp only [hdto, hdfr, hdat, hdn] at CWR CDO CBA
  replace CWR := hide CWR
  replace CDO := hide CDO
  replace CBA := hide CBA
  have CG := hide (rgrey_any (hS2.get 0 rfl) (by omega) HGC.out)
  have HS2 := hide hS2
  have HRS := hide hrs
  clear hst hrs hx hdk hdto hdfr hdat hdn h8 h9 hp hCB hS2 hS hc hd v0 v1 v2 v3 v4 hd'
  go_wp2_with fail
  refine CG.out.mono ?_
  rintro e w4 ⟨rfl, hb4⟩
  have hS4 := HS2.out.below hb4
  obtain ⟨xg, hxg⟩ : ∃ x, greyF (thereG s.m.gone) s.cols = x := ⟨_, rfl⟩
  rw [hxg]
  obtain ⟨b0, -, -, b3, -⟩ := sd_cells (hS4.get 0 rfl)
  obtain ⟨a1, a2, a3, _⟩ := hS4.rules 6 (g := gd) (t := 39) rfl
  have g0 := (a1 0).trans (show _ = some (.int .i64 dk) from rfl)
  have g1 := (a1 1).trans (show _ = some (.int .i64 dto) from rfl)
  have g2 := (a1 2).trans (show _ = some (.int .i64 dfr) from rfl)
  have g3 := (a1 3).trans (show _ = some (.int .i64 dat) from rfl)
  have g4 := (a1 4).trans (show _ = some (.int .i64 dn) from rfl)
  obtain ⟨u1, u2, u3, _⟩ := hS4.rules 1 (g := gO) (t := 94) rfl
  have u5 := (u1 0).trans (show _ = some (.slice A k c) from rfl)
  obtain ⟨x1, x2, x3, _⟩ := hS4.rules 7 (g := gd + 1) (t := 41) rfl
  have x5 := (x1 0).trans (show _ = some (.int .i64 0) from rfl)
  have x6 := (x1 1).trans (show _ = some (.bool false) from rfl)
  have x7 := (x1 2).trans (show _ = some (.int .i64 0) from rfl)
  clear a1 u1 x1
  have HS4 := hide hS4
  clear hxg hb4 hS4 HS2 CG
  go_wp2_with fail
  go_region_held3 (fun w' => w'.cell? ⟨Bs, 0, none⟩ = some (.pointer (some ⟨s.Bm, 0, none⟩)) ∧ w'.cell? ⟨gd, 0, none⟩ = some (.int .i64 dk) ∧ w'.cell? ⟨gd, 1, none⟩ = some (.int .i64 dto) ∧ w'.cell? ⟨gd, 2, none⟩ = some (.int .i64 dfr) ∧ w'.cell? ⟨gd, 3, none⟩ = some (.int .i64 dat) ∧ w'.cell? ⟨gd, 4, none⟩ = some (.int .i64 dn)) (first | go_keep | (simp (config := { maxDischargeDepth := 8 }) [*, World.cell?_alloc_some, World.cell?_setCell_far]; done))
    (first
      | (go_at_call 78; (with_reducible refine (CWR.out _ (sd_mem (HS4.out.drew.get 0 rfl))).mono ?_); rintro e w5 ⟨rfl, hb5⟩; have hS5 := HS4.out.drew.below hb5; obtain ⟨b0, -, -, b3, -⟩ := sd_cells (hS5.get 0 rfl); obtain ⟨a1, a2, a3, _⟩ := hS5.rules 6 (g := gd) (t := 39) rfl; have g0 := (a1 0).trans (show _ = some (.int .i64 dk) from rfl); have g1 := (a1 1).trans (show _ = some (.int .i64 dto) from rfl); have g2 := (a1 2).trans (show _ = some (.int .i64 dfr) from rfl); have g3 := (a1 3).trans (show _ = some (.int .i64 dat) from rfl); have g4 := (a1 4).trans (show _ = some (.int .i64 dn) from rfl); obtain ⟨u1, u2, u3, _⟩ := hS5.rules 1 (g := gO) (t := 94) rfl; have u5 := (u1 0).trans (show _ = some (.slice A k c) from rfl); obtain ⟨x1, x2, x3, _⟩ := hS5.rules 7 (g := gd + 1) (t := 41) rfl; have x5 := (x1 0).trans (show _ = some (.int .i64 0) from rfl); have x6 := (x1 1).trans (show _ = some (.bool false) from rfl); have x7 := (x1 2).trans (show _ = some (.int .i64 0) from rfl); clear a1 u1 x1; have HS5 := hide hS5; clear hb5 hS5 HS4))
  all_goals
    obtain ⟨W6, hW6, hS6⟩ : ∃ X, w5.setCell ⟨gd + 1, 0, none⟩ (.int .i64 x) = X ∧ Sep No w X [sdI Bs s, blkI gO 94 #[.slice A k c, .slice none 0 0, .slice A3 gl.length c3], rowI 41 3 A k c (outsV (rtRun q (ds.take k) (rt0 σ0)).1), rowI 3 1 A3 gl.length c3 (ints gl), blkI g 27 #[.slice AO nO cO, .slice AR nR cR], blkI (g + 1) 94 #[.slice none 0 0, .slice none 0 0, .slice none 0 0], blkI gd 39 #[.int .i64 dk, .int .i64 dto, .int .i64 dfr, .int .i64 dat, .int .i64 dn], blkI (gd + 1) 41 #[.int .i64 x, .bool false, .int .i64 0]] := ⟨_, rfl, HS5.out.set_ 7 (g := gd + 1) (t := 41) rfl 0 (.int .i64 x)⟩
    try rw [hW6]
    clear b0 b3 a2 a3 g0 g1 g2 g3 g4 u2 u3 u5 x2 x3 x5 x6 x7 hW6 HS5 CWR
    obtain ⟨b0, -, -, b3, -⟩ := sd_cells (hS6.get 0 rfl)
    obtain ⟨a1, a2, a3, _⟩ := hS6.rules 6 (g := gd) (t := 39) rfl
    have g0 := (a1 0).trans (show _ = some (.int .i64 dk) from rfl)
    have g1 := (a1 1).trans (show _ = some (.int .i64 dto) from rfl)
    have g2 := (a1 2).trans (show _ = some (.int .i64 dfr) from rfl)
    have g3 := (a1 3).trans (show _ = some (.int .i64 dat) from rfl)
    have g4 := (a1 4).trans (show _ = some (.int .i64 dn) from rfl)
    obtain ⟨u1, u2, u3, _⟩ := hS6.rules 1 (g := gO) (t := 94) rfl
    have u5 := (u1 0).trans (show _ = some (.slice A k c) from rfl)
    obtain ⟨x1, x2, x3, _⟩ := hS6.rules 7 (g := gd + 1) (t := 41) rfl
    have x5 := (x1 0).trans (show _ = some (.int .i64 x) from rfl)
    have x6 := (x1 1).trans (show _ = some (.bool false) from rfl)
    have x7 := (x1 2).trans (show _ = some (.int .i64 0) from rfl)
    clear a1 u1 x1
    by_cases hx0 : x = 0
    · subst hx0
      have HW0 := HX
      by_cases h1 : dk = 1
      · subst h1
        have CT := hide (rthere_any (sd_mem (hS6.get 0 rfl)) (by have h1 := HGC.out; omega))
        obtain ⟨tn, htn⟩ : ∃ x, (thereG s.m.gone).length = x := ⟨_, rfl⟩
        rw [htn] at CT
        have HTN := hide htn
        have HS6 := hide hS6
        clear hS6 htn
        go_wp2_with fail
        refine CT.out.mono ?_
        rintro e w7 ⟨rfl, hb7⟩
        have hS7 := HS6.out.below hb7
        clear b0 b3 a2 a3 g0 g1 g2 g3 g4 u2 u3 u5 x2 x3 x5 x6 x7 hb7 HS6 CT
        obtain ⟨b0, -, -, b3, -⟩ := sd_cells (hS7.get 0 rfl)
        obtain ⟨a1, a2, a3, _⟩ := hS7.rules 6 (g := gd) (t := 39) rfl
        have g0 := (a1 0).trans (show _ = some (.int .i64 1) from rfl)
        have g1 := (a1 1).trans (show _ = some (.int .i64 dto) from rfl)
        have g2 := (a1 2).trans (show _ = some (.int .i64 dfr) from rfl)
        have g3 := (a1 3).trans (show _ = some (.int .i64 dat) from rfl)
        have g4 := (a1 4).trans (show _ = some (.int .i64 dn) from rfl)
        obtain ⟨u1, u2, u3, _⟩ := hS7.rules 1 (g := gO) (t := 94) rfl
        have u5 := (u1 0).trans (show _ = some (.slice A k c) from rfl)
        obtain ⟨x1, x2, x3, _⟩ := hS7.rules 7 (g := gd + 1) (t := 41) rfl
        have x5 := (x1 0).trans (show _ = some (.int .i64 0) from rfl)
        have x6 := (x1 1).trans (show _ = some (.bool false) from rfl)
        have x7 := (x1 2).trans (show _ = some (.int .i64 0) from rfl)
        clear a1 u1 x1
        by_cases hf : 24 ≤ tn
        · have t3 : decide (24 ≤ tn) = true := by simp [hf]
          have t4 : decide ((24 : Int) ≤ (tn : Int)) = true := by simp; omega
          have hrs := HRS.out
          rw [if_neg (by simp), if_pos ⟨by simp, by rw [HTN.out]; exact hf⟩] at hrs
          have HRS := hide hrs
          have HS5 := hide (hS7.set_ 7 (g := gd + 1) (t := 41) rfl 0 (.int .i64 6))
          clear hS7 hrs hf
          go_wp2_with (first
            | (at_builtin
               refine wpList_app1 (cs := #[.int .i64 6, .bool false, .int .i64 0]) rfl (.tmp 193) (.tmp 195) 23 rfl (F := No) (W := w) sOut (items := _ :: _ :: _ :: _ :: _) HS5.out 2 (n := k) rfl rfl rfl (by simp) rfl rfl (by omega) ?_
               intro A6 c6 w6 hS6 hC6
               obtain ⟨u1, u2, u3, _⟩ := hS6.rules 1 (g := gO) (t := 94) rfl))
          have hS7 := hS6.set_ 1 (g := gO) (t := 94) rfl 0 (.slice A6 (k + 1) c6)
          have HS7 := hide (hS7.sub (l := [_, _, _, _, _, _]) (List.sublist_append_left [_, _, _, _, _, _] [_, _]))
          clear hS6 hC6 hS7 u1 HS5
          go_roundw
          case rel => exact ⟨k + 1, A6, c6, s, A3, c3, gl, by omega, by go_num, hide ⟨by rw [HRS.out], HI.out.2⟩, by
            rw [HRS.out]
            dsimp only
            rw [outsV_app, outsV_one]
            exact HS7.out⟩
          case measure => simp [intOf]; omega
        · have t3 : decide (24 ≤ tn) = false := by simp [hf]
          have t4 : decide ((24 : Int) ≤ (tn : Int)) = false := by simp; omega
          have hrs := HRS.out
          rw [if_neg (by simp), if_neg (fun h => hf (by have h2 := h.2; rw [HTN.out] at h2; exact h2))] at hrs
          simp only [if_true] at hrs
          have HRS := hide hrs
          have HCB1 := hide (show CB = s.cols from by rw [← HCBB.out]; unfold rtBars; rw [if_neg (by rw [HDK.out]; decide)]; rfl)
          clear hrs hf
          have HS7 := hide hS7
          clear hS7
          go_wp2_with fail
          refine (CBA.out _ (HS7.out.get 0 rfl) HW0.out).mono ?_
          rintro e w8 ⟨⟨u, rfl⟩, hP8⟩
          have hS8 := HS7.out.call 0 rfl hP8
          clear hP8 HS7 CBA b0 b3 a2 a3 g0 g1 g2 g3 g4 u2 u3 u5 x2 x3 x5 x6 x7
          obtain ⟨b0, -, -, b3, -⟩ := sd_cells (hS8.get 0 rfl)
          obtain ⟨a1, a2, a3, _⟩ := hS8.rules 6 (g := gd) (t := 39) rfl
          have g0 := (a1 0).trans (show _ = some (.int .i64 1) from rfl)
          have g1 := (a1 1).trans (show _ = some (.int .i64 dto) from rfl)
          have g2 := (a1 2).trans (show _ = some (.int .i64 dfr) from rfl)
          have g3 := (a1 3).trans (show _ = some (.int .i64 dat) from rfl)
          have g4 := (a1 4).trans (show _ = some (.int .i64 dn) from rfl)
          obtain ⟨u1, u2, u3, _⟩ := hS8.rules 1 (g := gO) (t := 94) rfl
          have u5 := (u1 0).trans (show _ = some (.slice A k c) from rfl)
          obtain ⟨x1, x2, x3, _⟩ := hS8.rules 7 (g := gd + 1) (t := 41) rfl
          have x5 := (x1 0).trans (show _ = some (.int .i64 0) from rfl)
          have x6 := (x1 1).trans (show _ = some (.bool false) from rfl)
          have x7 := (x1 2).trans (show _ = some (.int .i64 0) from rfl)
          clear a1 u1 x1
          replace b0 : w8.cell? ⟨Bs, 0, none⟩ = some (.pointer (some ⟨s.Bm, 0, none⟩)) := b0
          have HS8 := hide hS8
          have HM8 := hide (show (rmI s.Bm s.m).P w8.drew from sd_mem (s := s.col CB) (hS8.drew.get 0 rfl))
          clear hS8
          go_wp2_with fail
          go_region_held3 (fun w' => w'.cell? ⟨Bs, 0, none⟩ = some (.pointer (some ⟨s.Bm, 0, none⟩)) ∧ w'.cell? ⟨gd, 0, none⟩ = some (.int .i64 1) ∧ w'.cell? ⟨gd, 1, none⟩ = some (.int .i64 dto) ∧ w'.cell? ⟨gd, 2, none⟩ = some (.int .i64 dfr) ∧ w'.cell? ⟨gd, 3, none⟩ = some (.int .i64 dat) ∧ w'.cell? ⟨gd, 4, none⟩ = some (.int .i64 dn)) (first | go_keep | (simp (config := { maxDischargeDepth := 8 }) [*, World.cell?_alloc_some, World.cell?_setCell_far]; done))
            (first
              | (go_at_call 81; (with_reducible refine (CDO.out _ HM8.out HW0.out).mono ?_); rintro e w9 ⟨m', rfl, hab, hP9, hlen, hgn⟩; have hS9 := sd_call (s := s.col CB) HS8.out.drew hP9; obtain ⟨b0, -, -, b3, -⟩ := sd_cells (hS9.get 0 rfl); obtain ⟨a1, a2, a3, _⟩ := hS9.rules 6 (g := gd) (t := 39) rfl; have g0 := (a1 0).trans (show _ = some (.int .i64 1) from rfl); have g1 := (a1 1).trans (show _ = some (.int .i64 dto) from rfl); have g2 := (a1 2).trans (show _ = some (.int .i64 dfr) from rfl); have g3 := (a1 3).trans (show _ = some (.int .i64 dat) from rfl); have g4 := (a1 4).trans (show _ = some (.int .i64 dn) from rfl); obtain ⟨u1, u2, u3, _⟩ := hS9.rules 1 (g := gO) (t := 94) rfl; have u5 := (u1 0).trans (show _ = some (.slice A k c) from rfl); obtain ⟨x1, x2, x3, _⟩ := hS9.rules 7 (g := gd + 1) (t := 41) rfl; have x5 := (x1 0).trans (show _ = some (.int .i64 0) from rfl); have x6 := (x1 1).trans (show _ = some (.bool false) from rfl); have x7 := (x1 2).trans (show _ = some (.int .i64 0) from rfl); clear a1 u1 x1; replace b0 : w9.cell? ⟨Bs, 0, none⟩ = some (.pointer (some ⟨s.Bm, 0, none⟩)) := b0; have HS9 := hide hS9; have HAB := hide hab; have HGD := hide hgn; clear hP9 hS9 HS8 hab hlen hgn))
          all_goals
            obtain ⟨W10, hW10, hS10⟩ : ∃ X, ((w9.setCell ⟨gd + 1, 0, none⟩ (.int .i64 oc)).setCell ⟨gd + 1, 1, none⟩ (.bool orf)).setCell ⟨gd + 1, 2, none⟩ (.int .i64 on) = X ∧ Sep No w X [sdI Bs { s.col CB with m := m' }, blkI gO 94 #[.slice A k c, .slice none 0 0, .slice A3 gl.length c3], rowI 41 3 A k c (outsV (rtRun q (ds.take k) (rt0 σ0)).1), rowI 3 1 A3 gl.length c3 (ints gl), blkI g 27 #[.slice AO nO cO, .slice AR nR cR], blkI (g + 1) 94 #[.slice none 0 0, .slice none 0 0, .slice none 0 0], blkI gd 39 #[.int .i64 1, .int .i64 dto, .int .i64 dfr, .int .i64 dat, .int .i64 dn], blkI (gd + 1) 41 #[.int .i64 oc, .bool orf, .int .i64 on]] := ⟨_, rfl, ((HS9.out.set_ 7 (g := gd + 1) (t := 41) rfl 0 (.int .i64 oc)).set_ 7 (g := gd + 1) (t := 41) rfl 1 (.bool orf)).set_ 7 (g := gd + 1) (t := 41) rfl 2 (.int .i64 on)⟩
            try rw [hW10]
            clear b0 b3 a2 a3 g0 g1 g2 g3 g4 u2 u3 u5 x2 x3 x5 x6 x7 hW10 HS9
            obtain ⟨b0, -, -, b3, -⟩ := sd_cells (hS10.get 0 rfl)
            obtain ⟨a1, a2, a3, _⟩ := hS10.rules 6 (g := gd) (t := 39) rfl
            have g0 := (a1 0).trans (show _ = some (.int .i64 1) from rfl)
            have g1 := (a1 1).trans (show _ = some (.int .i64 dto) from rfl)
            have g2 := (a1 2).trans (show _ = some (.int .i64 dfr) from rfl)
            have g3 := (a1 3).trans (show _ = some (.int .i64 dat) from rfl)
            have g4 := (a1 4).trans (show _ = some (.int .i64 dn) from rfl)
            obtain ⟨u1, u2, u3, _⟩ := hS10.rules 1 (g := gO) (t := 94) rfl
            have u5 := (u1 0).trans (show _ = some (.slice A k c) from rfl)
            obtain ⟨x1, x2, x3, _⟩ := hS10.rules 7 (g := gd + 1) (t := 41) rfl
            have x5 := (x1 0).trans (show _ = some (.int .i64 oc) from rfl)
            have x6 := (x1 1).trans (show _ = some (.bool orf) from rfl)
            have x7 := (x1 2).trans (show _ = some (.int .i64 on) from rfl)
            clear a1 u1 x1
            have hS11 : Sep No w W10 (sdR Bs { s.col CB with m := m' } ++ _) := Sep.split (l := sdR Bs { s.col CB with m := m' }) hS10
            obtain ⟨-, -, b2, -, b4⟩ := sd_cells (hS10.get 0 rfl)
            have HCBL := hide (show CB.length ≤ 1000 from by rw [HCB.out]; omega)
            obtain ⟨CL, hCL⟩ : ∃ x, CB.length = x := ⟨_, rfl⟩
            have HCLL := hide hCL
            replace b2 : W10.cell? ⟨Bs, 2, none⟩ = some (.slice s.Ac CL s.cc) := by rw [← hCL]; exact b2
            have hS12 : Sep No w W10 (blkI Bs 218 #[.pointer (some ⟨s.Bm, 0, none⟩), .int .i64 s.q, .slice s.Ac CL s.cc] :: rowI 3 1 s.Ac CL s.cc (ints CB) :: rmI s.Bm m' :: [blkI gO 94 #[.slice A k c, .slice none 0 0, .slice A3 gl.length c3], rowI 41 3 A k c (outsV (rtRun q (ds.take k) (rt0 σ0)).1), rowI 3 1 A3 gl.length c3 (ints gl), blkI g 27 #[.slice AO nO cO, .slice AR nR cR], blkI (g + 1) 94 #[.slice none 0 0, .slice none 0 0, .slice none 0 0], blkI gd 39 #[.int .i64 1, .int .i64 dto, .int .i64 dfr, .int .i64 dat, .int .i64 dn], blkI (gd + 1) 41 #[.int .i64 oc, .bool orf, .int .i64 on]]) := by rw [← hCL]; exact hS11
            have HS12 := hide hS12
            have hcl1 : CL ≤ 1000 := by rw [← hCL]; exact HCBL.out
            clear hS10 hS11 hS12 hCL
            go_wp2_with (first
              | (at_builtin
                 refine wpList_app1 (cs := #[.int .i64 2]) rfl (.tmp 187) (.tmp 188) 35 rfl (F := No) (W := w) sInt (items := _ :: _ :: _ :: _) HS12.out 1 (n := CL) rfl rfl rfl (by simp) rfl rfl (by omega) ?_
                 intro A9 c9 w12 hS13 hC13
                 clear u2 u3 u5 x2 x3 x5 x6 x7
                 obtain ⟨z1, z2, z3, _⟩ := hS13.rules 0 (g := Bs) (t := 218) rfl
                 (have z5 := (z1 2).trans (show _ = some (.slice s.Ac CL s.cc) from rfl))
                 obtain ⟨u1, u2, u3, _⟩ := hS13.rules 3 (g := gO) (t := 94) rfl
                 (have u5 := (u1 0).trans (show _ = some (.slice A k c) from rfl))
                 obtain ⟨x1, x2, x3, _⟩ := hS13.rules 9 (g := gd + 1) (t := 41) rfl
                 (have x5 := (x1 0).trans (show _ = some (.int .i64 oc) from rfl))
                 (have x6 := (x1 1).trans (show _ = some (.bool orf) from rfl))
                 (have x7 := (x1 2).trans (show _ = some (.int .i64 on) from rfl))
                 (have HS5 := hide (show Sep No w (w12.setCell ⟨Bs, 2, none⟩ (.slice A9 (CL + 1) c9)) [sdI Bs ⟨s.Bm, m', s.q, A9, c9, CB ++ [2]⟩, blkI gO 94 #[.slice A k c, .slice none 0 0, .slice A3 gl.length c3], rowI 41 3 A k c (outsV (rtRun q (ds.take k) (rt0 σ0)).1), rowI 3 1 A3 gl.length c3 (ints gl), blkI g 27 #[.slice AO nO cO, .slice AR nR cR], blkI (g + 1) 94 #[.slice none 0 0, .slice none 0 0, .slice none 0 0], blkI gd 39 #[.int .i64 1, .int .i64 dto, .int .i64 dfr, .int .i64 dat, .int .i64 dn], blkI (gd + 1) 41 #[.int .i64 oc, .bool orf, .int .i64 on]] from by
                   refine Sep.join (l := sdR Bs ⟨s.Bm, m', s.q, A9, c9, CB ++ [2]⟩) ?_
                   unfold sdR sdC
                   dsimp only
                   rw [List.length_append, List.length_singleton, HCLL.out, show ints (CB ++ [2]) = ints CB ++ [.int .i64 2] from by simp [ints]]
                   exact hS13.set_ 0 (g := Bs) (t := 218) rfl 2 (.slice A9 (CL + 1) c9)))
                 clear z1 u1 x1 hS13 hC13 HS12)
              | (at_builtin
                 refine wpList_app1 (cs := #[.int .i64 oc, .bool orf, .int .i64 on]) rfl (.tmp 193) (.tmp 195) 23 rfl (F := No) (W := w) sOut (items := _ :: _ :: _ :: _ :: _) HS5.out 2 (n := k) rfl rfl rfl (by simp) rfl rfl (by omega) ?_
                 intro A6 c6 w6 hS6 hC6
                 obtain ⟨u1, u2, u3, _⟩ := hS6.rules 1 (g := gO) (t := 94) rfl))
            have hS7 := hS6.set_ 1 (g := gO) (t := 94) rfl 0 (.slice A6 (k + 1) c6)
            have HS7 := hide (hS7.sub (l := [_, _, _, _, _, _]) (List.sublist_append_left [_, _, _, _, _, _] [_, _]))
            clear hS6 hC6 hS7 u1 HS5
            go_roundw
            case rel => exact ⟨k + 1, A6, c6, ⟨s.Bm, m', s.q, A9, c9, CB ++ [2]⟩, A3, c3, gl, by omega, by go_num, hide ⟨by rw [HRS.out]; show (⟨absR m', m'.gone, CB ++ [2], gl⟩ : RT) = _; rw [HAB.out, HGD.out]; unfold goneD; rw [if_pos HDK.out, HCB1.out], HI.out.2⟩, by
              rw [HRS.out]
              dsimp only
              rw [outsV_app, outsV_one]
              exact HS7.out⟩
            case measure => simp [intOf]; omega
      · have HK1 := hide h1
        have y1 : (dk == 1) = false := by simp [h1]
        have hrs := HRS.out
        rw [if_neg (by simp), if_neg (fun h => h1 h.1), if_neg h1, if_neg h1] at hrs
        have HRS := hide hrs
        have hS7 := hS6
        clear hrs hS6 h1
        have HS7 := hide hS7
        clear hS7
        go_wp2_with fail
        refine (CBA.out _ (HS7.out.get 0 rfl) HW0.out).mono ?_
        rintro e w8 ⟨⟨u, rfl⟩, hP8⟩
        have hS8 := HS7.out.call 0 rfl hP8
        clear hP8 HS7 CBA b0 b3 a2 a3 g0 g1 g2 g3 g4 u2 u3 u5 x2 x3 x5 x6 x7
        obtain ⟨b0, -, -, b3, -⟩ := sd_cells (hS8.get 0 rfl)
        obtain ⟨a1, a2, a3, _⟩ := hS8.rules 6 (g := gd) (t := 39) rfl
        have g0 := (a1 0).trans (show _ = some (.int .i64 dk) from rfl)
        have g1 := (a1 1).trans (show _ = some (.int .i64 dto) from rfl)
        have g2 := (a1 2).trans (show _ = some (.int .i64 dfr) from rfl)
        have g3 := (a1 3).trans (show _ = some (.int .i64 dat) from rfl)
        have g4 := (a1 4).trans (show _ = some (.int .i64 dn) from rfl)
        obtain ⟨u1, u2, u3, _⟩ := hS8.rules 1 (g := gO) (t := 94) rfl
        have u5 := (u1 0).trans (show _ = some (.slice A k c) from rfl)
        obtain ⟨x1, x2, x3, _⟩ := hS8.rules 7 (g := gd + 1) (t := 41) rfl
        have x5 := (x1 0).trans (show _ = some (.int .i64 0) from rfl)
        have x6 := (x1 1).trans (show _ = some (.bool false) from rfl)
        have x7 := (x1 2).trans (show _ = some (.int .i64 0) from rfl)
        clear a1 u1 x1
        replace b0 : w8.cell? ⟨Bs, 0, none⟩ = some (.pointer (some ⟨s.Bm, 0, none⟩)) := b0
        have HS8 := hide hS8
        have HM8 := hide (show (rmI s.Bm s.m).P w8.drew from sd_mem (s := s.col CB) (hS8.drew.get 0 rfl))
        clear hS8
        go_wp2_with fail
        go_region_held3 (fun w' => w'.cell? ⟨Bs, 0, none⟩ = some (.pointer (some ⟨s.Bm, 0, none⟩)) ∧ w'.cell? ⟨gd, 0, none⟩ = some (.int .i64 dk) ∧ w'.cell? ⟨gd, 1, none⟩ = some (.int .i64 dto) ∧ w'.cell? ⟨gd, 2, none⟩ = some (.int .i64 dfr) ∧ w'.cell? ⟨gd, 3, none⟩ = some (.int .i64 dat) ∧ w'.cell? ⟨gd, 4, none⟩ = some (.int .i64 dn)) (first | go_keep | (simp (config := { maxDischargeDepth := 8 }) [*, World.cell?_alloc_some, World.cell?_setCell_far]; done))
          (first
            | (go_at_call 81; (with_reducible refine (CDO.out _ HM8.out HW0.out).mono ?_); rintro e w9 ⟨m', rfl, hab, hP9, hlen, hgn⟩; have hS9 := sd_call (s := s.col CB) HS8.out.drew hP9; obtain ⟨b0, -, -, b3, -⟩ := sd_cells (hS9.get 0 rfl); obtain ⟨a1, a2, a3, _⟩ := hS9.rules 6 (g := gd) (t := 39) rfl; have g0 := (a1 0).trans (show _ = some (.int .i64 dk) from rfl); have g1 := (a1 1).trans (show _ = some (.int .i64 dto) from rfl); have g2 := (a1 2).trans (show _ = some (.int .i64 dfr) from rfl); have g3 := (a1 3).trans (show _ = some (.int .i64 dat) from rfl); have g4 := (a1 4).trans (show _ = some (.int .i64 dn) from rfl); obtain ⟨u1, u2, u3, _⟩ := hS9.rules 1 (g := gO) (t := 94) rfl; have u5 := (u1 0).trans (show _ = some (.slice A k c) from rfl); obtain ⟨x1, x2, x3, _⟩ := hS9.rules 7 (g := gd + 1) (t := 41) rfl; have x5 := (x1 0).trans (show _ = some (.int .i64 0) from rfl); have x6 := (x1 1).trans (show _ = some (.bool false) from rfl); have x7 := (x1 2).trans (show _ = some (.int .i64 0) from rfl); clear a1 u1 x1; replace b0 : w9.cell? ⟨Bs, 0, none⟩ = some (.pointer (some ⟨s.Bm, 0, none⟩)) := b0; have HS9 := hide hS9; have HAB := hide hab; have HGD := hide hgn; clear hP9 hS9 HS8 hab hlen hgn))
        all_goals
          obtain ⟨W10, hW10, hS10⟩ : ∃ X, ((w9.setCell ⟨gd + 1, 0, none⟩ (.int .i64 oc)).setCell ⟨gd + 1, 1, none⟩ (.bool orf)).setCell ⟨gd + 1, 2, none⟩ (.int .i64 on) = X ∧ Sep No w X [sdI Bs { s.col CB with m := m' }, blkI gO 94 #[.slice A k c, .slice none 0 0, .slice A3 gl.length c3], rowI 41 3 A k c (outsV (rtRun q (ds.take k) (rt0 σ0)).1), rowI 3 1 A3 gl.length c3 (ints gl), blkI g 27 #[.slice AO nO cO, .slice AR nR cR], blkI (g + 1) 94 #[.slice none 0 0, .slice none 0 0, .slice none 0 0], blkI gd 39 #[.int .i64 dk, .int .i64 dto, .int .i64 dfr, .int .i64 dat, .int .i64 dn], blkI (gd + 1) 41 #[.int .i64 oc, .bool orf, .int .i64 on]] := ⟨_, rfl, ((HS9.out.set_ 7 (g := gd + 1) (t := 41) rfl 0 (.int .i64 oc)).set_ 7 (g := gd + 1) (t := 41) rfl 1 (.bool orf)).set_ 7 (g := gd + 1) (t := 41) rfl 2 (.int .i64 on)⟩
          try rw [hW10]
          clear b0 b3 a2 a3 g0 g1 g2 g3 g4 u2 u3 u5 x2 x3 x5 x6 x7 hW10 HS9
          obtain ⟨b0, -, -, b3, -⟩ := sd_cells (hS10.get 0 rfl)
          obtain ⟨a1, a2, a3, _⟩ := hS10.rules 6 (g := gd) (t := 39) rfl
          have g0 := (a1 0).trans (show _ = some (.int .i64 dk) from rfl)
          have g1 := (a1 1).trans (show _ = some (.int .i64 dto) from rfl)
          have g2 := (a1 2).trans (show _ = some (.int .i64 dfr) from rfl)
          have g3 := (a1 3).trans (show _ = some (.int .i64 dat) from rfl)
          have g4 := (a1 4).trans (show _ = some (.int .i64 dn) from rfl)
          obtain ⟨u1, u2, u3, _⟩ := hS10.rules 1 (g := gO) (t := 94) rfl
          have u5 := (u1 0).trans (show _ = some (.slice A k c) from rfl)
          obtain ⟨x1, x2, x3, _⟩ := hS10.rules 7 (g := gd + 1) (t := 41) rfl
          have x5 := (x1 0).trans (show _ = some (.int .i64 oc) from rfl)
          have x6 := (x1 1).trans (show _ = some (.bool orf) from rfl)
          have x7 := (x1 2).trans (show _ = some (.int .i64 on) from rfl)
          clear a1 u1 x1
          have HS5 := hide hS10
          clear hS10
          go_wp2_with (first
            | (at_builtin
               refine wpList_app1 (cs := #[.int .i64 oc, .bool orf, .int .i64 on]) rfl (.tmp 193) (.tmp 195) 23 rfl (F := No) (W := w) sOut (items := _ :: _ :: _ :: _ :: _) HS5.out 2 (n := k) rfl rfl rfl (by simp) rfl rfl (by omega) ?_
               intro A6 c6 w6 hS6 hC6
               obtain ⟨u1, u2, u3, _⟩ := hS6.rules 1 (g := gO) (t := 94) rfl))
          have hS7 := hS6.set_ 1 (g := gO) (t := 94) rfl 0 (.slice A6 (k + 1) c6)
          have HS7 := hide (hS7.sub (l := [_, _, _, _, _, _]) (List.sublist_append_left [_, _, _, _, _, _] [_, _]))
          clear hS6 hC6 hS7 u1 HS5
          go_roundw
          case rel => exact ⟨k + 1, A6, c6, { s.col CB with m := m' }, A3, c3, gl, by omega, by go_num, hide ⟨by rw [HRS.out]; show (⟨absR m', m'.gone, CB, gl⟩ : RT) = _; rw [HAB.out, HGD.out]; unfold goneD; rw [if_neg (by rw [HDK.out]; exact HK1.out)], HI.out.2⟩, by
            rw [HRS.out]
            dsimp only
            rw [outsV_app, outsV_one]
            exact HS7.out⟩
          case measure => simp [intOf]; omega
    · have hrs := HRS.out
      rw [if_pos hx0] at hrs
      have HRS := hide hrs
      have y1 : (x == 0) = false := by simp [hx0]
      have HS5 := hide hS6
      clear hS6 hrs hx0
      go_wp2_with (first
        | (at_builtin
           refine wpList_app1 (cs := #[.int .i64 x, .bool false, .int .i64 0]) rfl (.tmp 193) (.tmp 195) 23 rfl (F := No) (W := w) sOut (items := _ :: _ :: _ :: _ :: _) HS5.out 2 (n := k) rfl rfl rfl (by simp) rfl rfl (by omega) ?_
           intro A6 c6 w6 hS6 hC6
           obtain ⟨u1, u2, u3, _⟩ := hS6.rules 1 (g := gO) (t := 94) rfl))
      have hS7 := hS6.set_ 1 (g := gO) (t := 94) rfl 0 (.slice A6 (k + 1) c6)
      have HS7 := hide (hS7.sub (l := [_, _, _, _, _, _]) (List.sublist_append_left [_, _, _, _, _, _] [_, _]))
      clear hS6 hC6 hS7 u1 HS5
      go_roundw
      case rel => exact ⟨k + 1, A6, c6, s, A3, c3, gl, by omega, by go_num, hide ⟨by rw [HRS.out], HI.out.2⟩, by
        rw [HRS.out]
        dsimp only
        rw [outsV_app, outsV_one]
        exact HS7.out⟩
      case measure => simp [intOf]; omega
end Go.Proofs.Ytjphckfbbiehdaa

namespace Go.Proofs.Ytjphckfbbiehdaa
open Go.RowKit

set_option maxRecDepth 1000000 in
set_option maxHeartbeats 64000000 in
theorem refTri_any (w : World) (AO AR Ad : Option Addr) (nO cO nR cR nd cd : Nat) (obs : List Ob) (roots : List Val) (gs : List (List Val)) (ds : List DoV) (q : Nat) (hq : q = 1 ∨ q = 2 ∨ q = 3) (hgs : obs.map Ob.fields = gs) (hO : ObsRd w (fun _ => True) AO nO obs) (hR : Rd w (fun _ => True) 2 AR nR (vals roots)) (hnO : nO ≤ 24) (hnR : nR ≤ 8) (h4 : ∀ o ∈ obs, o.n ≤ 4)
    (hM : MOk ⟨padR roots nR, gs⟩) (hD : Rd w (fun _ => True) 5 Ad nd (dosV ds)) (hnd : nd ≤ 100) :
    Calls Try.prog 41 #[.agg #[.slice AO nO cO, .slice AR nR cR], .int .i64 q, .slice Ad nd cd] w fun e w' => ∃ A c A2 n2 c2 A3 n3 c3, e = .returned (.agg #[.slice A nd c, .slice A2 n2 c2, .slice A3 n3 c3]) ∧ Below w.heap.size w w' ∧ Rd w' (fun g => w.heap.size ≤ g) 3 A nd (outsV (rtRun q ds (rt0 ⟨padR roots nR, gs⟩)).1) ∧ Rd w' (fun g => w.heap.size ≤ g) 2 A2 n2 (countsV (rtThere (rtRun q ds (rt0 ⟨padR roots nR, gs⟩)).2)) ∧ Rd w' (fun g => w.heap.size ≤ g) 1 A3 n3 (ints (rtRun q ds (rt0 ⟨padR roots nR, gs⟩)).2.gl) := by
  have HDL := hide (show ds.length = nd by have := hD.1; rw [dosV_length] at this; omega)
  have hgl : gs.length = nO := by rw [← hgs, List.length_map]; exact hO.len
  obtain ⟨g, hg⟩ : ∃ g, w.heap.size = g := ⟨_, rfl⟩
  have hS0 := ((Sep.nil No w).blkAt 27 #[.slice AO nO cO, .slice AR nR cR] hg).blkAt 94 #[.slice none 0 0, .slice none 0 0, .slice none 0 0] (g := g + 1) (by simp [hg])
  have CN := hide (fun w' (hb : Below w.heap.size w w') => newMem_any w' AO AR nO cO nR cR obs roots gs hgs (hO.below hb) (hR.below hb) (by omega) hnR h4)
  obtain ⟨σ0, hσ⟩ : ∃ σ, (⟨padR roots nR, gs⟩ : MSt) = σ := ⟨_, rfl⟩
  rw [hσ] at hM ⊢
  simp only [hσ] at CN
  have hso : σ0.objs.length = nO := by rw [← hσ]; exact hgl
  have HSO := hide hso
  have HAT := hide (fun k (hk : k ≤ ds.length) => rt_at hq hM ds (by omega) (by have := HDL.out; omega) k hk)
  have HM := hide hM
  have HQ := hide hq
  obtain ⟨M, hMM, hmk⟩ := rint_make nO (by omega)
  have HMM := hide hMM
  obtain ⟨a1, a2, a3, a4⟩ := hS0.rules 0 (g := g) (t := 27) rfl
  have a5 := (a1 0).trans (show _ = some (.slice AO nO cO) from rfl)
  have a6 := (a1 1).trans (show _ = some (.slice AR nR cR) from rfl)
  have HS0 := hide hS0
  clear hgs hO hR h4 hgl hS0 hσ hso hM hq hMM a1 a4
  go_enter Try.func41, Try.ntmps41
  go_wp2_with fail
  obtain ⟨w0, hw0⟩ : ∃ x, (w.alloc (.cells #[.slice AO nO cO, .slice AR nR cR] 27)).alloc (.cells #[.slice none 0 0, .slice none 0 0, .slice none 0 0] 94) = x := ⟨_, rfl⟩
  rw [hw0] at a2 a3 a5 a6 HS0 ⊢
  clear hw0
  go_cut [7] from 19 to 27 (fun s7 wx => ∃ (Bs Bm gc : Nat) (m0 : RMem), s7 = .pointer (some ⟨Bs, 0, none⟩) ∧ Hid (absR m0 = σ0 ∧ m0.gone = List.replicate nO false) ∧ Sep No w wx [sdI Bs ⟨Bm, m0, (q : Int), some ⟨gc, 0, none⟩, nO, List.replicate nO 0⟩, blkI g 27 #[.slice AO nO cO, .slice AR nR cR], blkI (g + 1) 94 #[.slice none 0 0, .slice none 0 0, .slice none 0 0]])
  case first =>
    have HSa := hide ((HS0.out.blkAtF 3 M (g := w0.heap.size) rfl).drew)
    go_region_held3 (fun w' => w'.cell? ⟨g, 0, none⟩ = some (.slice AO nO cO) ∧ w'.cell? ⟨g, 1, none⟩ = some (.slice AR nR cR)) (simp (config := { maxDischargeDepth := 8 }) [*, World.cell?_alloc_some])
      (first
        | (go_at_call 68
           first
           | (with_reducible refine (CN.out _ HSa.out.below_).mono ?_
              rintro e w4 ⟨Bm, m0, rfl, hab, hgn, hP4⟩
              have hS4 := row_new HSa.out hP4
              obtain ⟨k1, k2, k3, _⟩ := hS4.rules 2 (g := g) (t := 27) rfl
              (have k5 := (k1 0).trans (show _ = some (.slice AO nO cO) from rfl))
              (have k6 := (k1 1).trans (show _ = some (.slice AR nR cR) from rfl))
              have HS4 := hide (hS4.perm (List.Perm.swap _ _ _))
              have HAB := hide hab
              have HGN := hide hgn
              clear hS4 hP4 k1 hab hgn)
           | (with_reducible refine (CN.out _ HS0.out.drew.below_).mono ?_
              rintro e w4 ⟨Bm, m0, rfl, hab, hgn, hP4⟩
              have hS4 := row_new HS0.out.drew hP4
              obtain ⟨k1, k2, k3, _⟩ := hS4.rules 1 (g := g) (t := 27) rfl
              (have k5 := (k1 0).trans (show _ = some (.slice AO nO cO) from rfl))
              (have k6 := (k1 1).trans (show _ = some (.slice AR nR cR) from rfl))
              have HS4 := hide (hS4.blkAtF 3 M (g := w4.heap.size) rfl)
              have HAB := hide hab
              have HGN := hide hgn
              clear hS4 hP4 k1 hab hgn)))
    all_goals
      go_wp2_with fail
      go_meet
      case rel =>
        first
        | exact ⟨w4.heap.size, Bm, w0.heap.size, m0, rfl, hide ⟨HAB.out, HGN.out⟩, sd_mk HMM.out (by omega) (HS4.out.blkAtF 218 #[.pointer (some ⟨Bm, 0, none⟩), .int .i64 q, .slice (some ⟨w0.heap.size, 0, none⟩) nO nO] (g := w4.heap.size) rfl)⟩
        | exact ⟨w4.heap.size + 1, Bm, w4.heap.size, m0, rfl, hide ⟨HAB.out, HGN.out⟩, sd_mk HMM.out (by omega) (HS4.out.blkAtF 218 #[.pointer (some ⟨Bm, 0, none⟩), .int .i64 q, .slice (some ⟨w4.heap.size, 0, none⟩) nO nO] (g := w4.heap.size + 1) (by simp))⟩
  case rest =>
    obtain ⟨Bs, Bm, gc, m0, rfl, HH, hS6⟩ := hcut
    have HAB := hide HH.out.1
    have HGN := hide HH.out.2
    clear HH CN a2 a3 a5 a6
    have hreg : m0.regs = σ0.regs := by rw [← HAB.out]; rfl
    have CB := rbegin_any (hS6.get 0 rfl) (by show (List.replicate nO (0 : Int)).length ≤ 1000; rw [List.length_replicate]; omega) (show m0.regs.length = 8 from by rw [hreg]; exact HM.out.r8) (fun v hv h1 => (HM.out.vr v (by rw [← hreg]; exact hv) h1).1)
    have HCB := hide CB
    have HS6 := hide hS6
    have HI0 := hide (show (SdS.col ⟨Bm, m0, (q : Int), some ⟨gc, 0, none⟩, nO, List.replicate nO 0⟩ (beginC (List.replicate nO (0 : Int)).length m0.regs)).t [] = (rtRun q (ds.take 0) (rt0 σ0)).2 ∧ (SdS.col ⟨Bm, m0, (q : Int), some ⟨gc, 0, none⟩, nO, List.replicate nO 0⟩ (beginC (List.replicate nO (0 : Int)).length m0.regs)).q = (q : Int) from ⟨by
      rw [List.take_zero]
      show (⟨absR m0, m0.gone, _, []⟩ : RT) = rt0 σ0
      unfold rt0
      rw [HAB.out, HGN.out, HSO.out, List.length_replicate, hreg]
      rfl, rfl⟩)
    clear hS6 CB hreg HS0
    go_wp2_with fail
    refine HCB.out.mono ?_
    rintro e w7 ⟨⟨u, rfl⟩, hP7⟩
    obtain ⟨gO, hgO⟩ : ∃ x, w7.heap.size = x := ⟨_, rfl⟩
    have hS8 := (((HS6.out.call 0 rfl hP7).nilRow0 3 1).nilRow0 41 3).blkAtF 94 #[.slice none 0 0, .slice none 0 0, .slice none 0 0] hgO
    have HS8 := hide (hS8.perm (List.perm_append_comm (l₁ := [_, _, _]) (l₂ := [_]) |>.append_right [_, _]))
    clear hP7 hS8 HS6 HCB
    go_wp2_with fail
    go_loopw [33] (fun i wr => ∃ (k : Nat) (A : Option Addr) (c : Nat) (s : SdS) (A3 : Option Addr) (c3 : Nat) (gl : List Int), k ≤ nd ∧ i = .int .i64 k ∧ Hid (s.t gl = (rtRun q (ds.take k) (rt0 σ0)).2 ∧ s.q = (q : Int)) ∧
      Sep No w wr [sdI Bs s, blkI gO 94 #[.slice A k c, .slice none 0 0, .slice A3 gl.length c3], rowI 41 3 A k c (outsV (rtRun q (ds.take k) (rt0 σ0)).1), rowI 3 1 A3 gl.length c3 (ints gl), blkI g 27 #[.slice AO nO cO, .slice AR nR cR], blkI (g + 1) 94 #[.slice none 0 0, .slice none 0 0, .slice none 0 0]]) (fun i _ => nd - (intOf i).toNat)
    case atStart => exact ⟨0, none, 0, _, none, 0, [], by omega, rfl, HI0.out, HS8.out⟩
    case round =>
      clear HS8 HI0
      obtain ⟨k, A, c, s, A3, c3, gl, hk, rfl, HI, hS⟩ := hrel
      by_cases hlt : k < nd
      · have hkl : k < ds.length := by rw [HDL.out]; exact hlt
        by_cases h9 : ds[k].k = 9
        · exact rt_caseSweep hg hnd HDL HQ hD HAT hk hlt HI hS hkl h9
        by_cases h8 : ds[k].k = 8
        · exact rt_caseWork hg hnd HDL HQ hD HAT hk hlt HI hS hkl h9 h8
        · exact rt_caseDo hg hnd HDL HQ hD HAT hk hlt HI hS hkl h9 h8
      · obtain rfl : k = nd := by omega
        obtain ⟨hrt, hol, _, hgl⟩ := HAT.out k (by have := HDL.out; omega)
        rw [← HI.out.1] at hrt hol hgl
        have hgl2 : gl.length ≤ 100000 := by have h1 : (s.t gl).gl.length = gl.length := rfl; omega
        obtain ⟨hok, hcl, hgc2⟩ := sd_ok hrt (by omega)
        have HOK := hide hok
        have HCL := hide hcl
        have HGC := hide hgc2
        have HRT := hide hrt
        have hcn : s.cols.length ≤ 500 := by have := hok.n; omega
        have HCN := hide hcn
        have hon : s.m.obs.length ≤ 500 := hok.n
        have hr8 : s.m.regs.length = 8 := hok.m.r8
        have HR8 := hide hr8
        have HVR := hide (fun v (hv : v ∈ s.m.regs) => show vin s.cols.length v from fun h1 => by
          obtain ⟨h2, h3⟩ := hok.m.vr v hv h1
          obtain ⟨z, hz⟩ := int_nat h2
          have hps : (absR s.m).objs.length = s.m.obs.length := by simp [absR]
          exact ⟨z, hz, by omega⟩)
        have HVO := hide (fun (i : Nat) (hi : i < s.m.obs.length) v (hv : v ∈ s.m.obs[i].fields) => show vin s.cols.length v from fun h1 => by
          obtain ⟨h2, h3⟩ := hok.m.vo _ (List.mem_map.2 ⟨s.m.obs[i], List.getElem_mem hi, rfl⟩) v hv h1
          obtain ⟨z, hz⟩ := int_nat h2
          have hps : (absR s.m).objs.length = s.m.obs.length := by simp [absR]
          exact ⟨z, hz, by omega⟩)
        clear hrt hok hcl hgc2 hol hgl hr8
        rw [List.take_of_length_le (by rw [HDL.out]; exact Nat.le_refl _)] at HI hS
        have hth : rtThere (rtRun q ds (rt0 σ0)).2 = (thereK (goneO s.m.gone) s.cols.length).map fun x => (x, s.cols.getD x.toNat 0) := by
          rw [← HI.out.1]
          unfold rtThere
          rw [show thereG (s.t gl).gone = thereG s.m.gone from rfl, thereG_K, HGC.out]
          rfl
        have HTH := hide hth
        have HGL := hide (show (rtRun q ds (rt0 σ0)).2.gl = gl from by rw [← HI.out.1]; rfl)
        have HS := hide (hS.nilRow0 174 2)
        obtain ⟨N, hN⟩ : ∃ x, s.cols.length = x := ⟨_, rfl⟩
        have HN := hide hN
        have hN5 : N ≤ 500 := by rw [← hN]; exact hcn
        clear hth hS hN
        go_wp2_with fail
        go_loopw [18] (fun i2 wr => ∃ (j : Nat) (A2 : Option Addr) (c2 : Nat), j ≤ N ∧ i2 = .int .i64 j ∧ Sep No w wr [rowI 174 2 A2 ((thereK (goneO s.m.gone) j).map fun x => (x, s.cols.getD x.toNat 0)).length c2 (countsV ((thereK (goneO s.m.gone) j).map fun x => (x, s.cols.getD x.toNat 0))), sdI Bs s, blkI gO 94 #[.slice A k c, .slice A2 ((thereK (goneO s.m.gone) j).map fun x => (x, s.cols.getD x.toNat 0)).length c2, .slice A3 gl.length c3], rowI 41 3 A k c (outsV (rtRun q ds (rt0 σ0)).1), rowI 3 1 A3 gl.length c3 (ints gl), blkI g 27 #[.slice AO nO cO, .slice AR nR cR], blkI (g + 1) 94 #[.slice none 0 0, .slice none 0 0, .slice none 0 0]]) (fun i2 _ => N - (intOf i2).toNat)
        case atStart => exact ⟨0, none, 0, by omega, rfl, HS.out⟩
        case round =>
          clear HS
          obtain ⟨j, A2, c2, hj, rfl, hS⟩ := hrel
          obtain ⟨b0, -, b2, b3, -⟩ := sd_cells (hS.get 1 rfl)
          rw [HN.out] at b2
          by_cases hlt3 : j < N
          · have hkg : j < s.m.gone.length := by rw [HGC.out, HN.out]; exact hlt3
            obtain ⟨gc5, hAc5, c0, c1, -, c3', -, n20⟩ := sd_cell (hS.get 1 rfl) (z := j) (by rw [HN.out]; exact hlt3)
            rw [HN.out] at c0
            clear b2
            obtain ⟨-, -, m2, m3, -⟩ := rm_mem (sd_mem (hS.get 1 rfl))
            obtain ⟨gg, hgg, hz9, gv1, gv2, gv3⟩ := bools_at (rm_gone (sd_mem (hS.get 1 rfl))) hkg
            rw [hgg, HGC.out, HN.out] at m2
            have hT := thereG_succ s.m.gone hkg
            obtain ⟨b, hb⟩ : ∃ b, s.m.gone[j] = b := ⟨_, rfl⟩
            rw [hb] at gv1 hT
            obtain ⟨y, hy⟩ : ∃ y, s.cols.getD j 0 = y := ⟨_, rfl⟩
            rw [hy] at c1
            have t3 : decide ((j : Int) < 0) = false := by simp
            have t4 : decide ((N : Int) ≤ (j : Int)) = false := by simp; omega
            have t5 : (0 : Int) ≤ (j : Int) := by omega
            have t6 : (j : Int) < (N : Int) := by omega
            have HT := hide hT
            have HS := hide hS
            cases b with
            | true =>
              clear hT hb hy hS hgg hAc5
              go_wp2_with fail
              go_roundw
              case rel => exact ⟨j + 1, A2, c2, by omega, by go_num, by rw [HT.out, if_pos rfl, List.append_nil]; exact HS.out⟩
              case measure => simp [intOf]; omega
            | false =>
              have HTT := hide (show (thereK (goneO s.m.gone) (j + 1)).map (fun x => (x, s.cols.getD x.toNat 0)) = (thereK (goneO s.m.gone) j).map (fun x => (x, s.cols.getD x.toNat 0)) ++ [((j : Int), y)] from by
                rw [hT, if_neg (by simp), List.map_append, List.map_cons, List.map_nil, Int.toNat_natCast, hy])
              have HCO := hide (fun (X : World) (h : (sdI Bs s).P X) => sd_col_at h (z := j) (by rw [HN.out]; exact hlt3) hAc5)
              simp only [HN.out, hy] at HCO
              have hfpc : (sdI Bs s).fp gc5 := ⟨rowI 3 1 s.Ac s.cols.length s.cc (ints s.cols), by simp [sdR], by show (Value.slice s.Ac s.cols.length s.cc).ownBlock = some gc5; rw [hAc5]; rfl⟩
              have n1 : gO ≠ Bs := fun e => hS.other (a := 2) (b := 1) rfl rfl (by omega) gO rfl ⟨blkI Bs 218 (sdC s), by simp [sdR], e⟩
              have n2 : gO ≠ gc5 := fun e => hS.other (a := 2) (b := 1) rfl rfl (by omega) gO rfl (e ▸ hfpc)
              have n3 : Bs ≠ gO := fun e => n1 e.symm
              have n4 : gc5 ≠ gO := fun e => n2 e.symm
              have hml : ((thereK (goneO s.m.gone) j).map fun x => (x, s.cols.getD x.toNat 0)).length ≤ 500 := by rw [List.length_map]; have := thereK_len (goneO s.m.gone) j; omega
              obtain ⟨mm, hmm⟩ : ∃ x, ((thereK (goneO s.m.gone) j).map fun x => (x, s.cols.getD x.toNat 0)).length = x := ⟨_, rfl⟩
              have HMM2 := hide hmm
              obtain ⟨u1, u2, u3, _⟩ := hS.rules 2 (g := gO) (t := 94) rfl
              have u5 := (u1 1).trans (show _ = some (.slice A2 ((thereK (goneO s.m.gone) j).map fun x => (x, s.cols.getD x.toNat 0)).length c2) from rfl)
              rw [hmm] at u5 hml HS
              clear hT hb hy hS hgg hAc5 hfpc u1 hmm HT
              try clear hD
              try clear hnd
              try clear HDL
              try clear HSO
              try clear HAT
              try clear HM
              try clear HQ
              try clear HOK
              try clear HCL
              try clear HGC
              try clear HRT
              try clear HCN
              try clear HR8
              try clear HVR
              try clear HVO
              try clear HTH
              try clear HGL
              try clear HN
              try clear hnO
              try clear hnR
              try clear HI
              go_wp2_with fail
              go_region_law (first
                | (refine step_app1d (cs := #[.int .i64 j, .int .i64 y]) rfl (.tmp 220) (.tmp 230) 71 rfl (F := No) (W := w) sCount (items := _ :: _ :: _ :: _ :: _ :: _ :: _) HS.out 0 (n := mm) rfl rfl rfl (by simp) rfl rfl (by omega) ?_
                   intro A7 c7 w7 hS7 hC7
                   obtain ⟨z1, z2, z3, z4⟩ := hS7.rules 2 (g := gO) (t := 94) rfl
                   (have z5 := (z1 1).trans (show _ = some (.slice A2 mm c2) from rfl))
                   obtain ⟨o1, o2, o3, o4, o5, o6⟩ := HCO.out w7 (hS7.get 1 rfl)
                   clear z1 z4))
              all_goals
                have HS8 := hide (hS7.set_ 2 (g := gO) (t := 94) rfl 1 (.slice A7 (mm + 1) c7))
                clear hS7 hC7
                go_wp2_with fail
                go_roundw
                case rel => exact ⟨j + 1, A7, c7, by omega, by go_num, by
                  rw [HTT.out, countsV_app, List.length_append, List.length_singleton, HMM2.out]
                  exact HS8.out⟩
                case measure => simp [intOf]; omega
          · obtain rfl : j = N := by omega
            rw [← HN.out, ← HTH.out] at hS
            obtain ⟨u1, u2, u3, _⟩ := hS.rules 2 (g := gO) (t := 94) rfl
            have u5 := (u1 0).trans (show _ = some (.slice A k c) from rfl)
            have u6 := (u1 1).trans (show _ = some (.slice A2 (rtThere (rtRun q ds (rt0 σ0)).2).length c2) from rfl)
            have u7 := (u1 2).trans (show _ = some (.slice A3 gl.length c3) from rfl)
            obtain ⟨x1, x2, x3, _⟩ := hS.rules 6 (g := g + 1) (t := 94) rfl
            have n2 : gO ≠ g + 1 := fun e => hS.other (a := 2) (b := 6) rfl rfl (by omega) gO rfl e
            have n4 : g + 1 ≠ gO := fun e => n2 e.symm
            have hF := ((hS.set_ 6 (g := g + 1) (t := 94) rfl 0 (.slice A k c)).set_ 6 (g := g + 1) (t := 94) rfl 1 (.slice A2 (rtThere (rtRun q ds (rt0 σ0)).2).length c2)).set_ 6 (g := g + 1) (t := 94) rfl 2 (.slice A3 gl.length c3)
            have HF := hide hF
            clear hS u1 hF
            go_wp2_with fail
            refine bodyPost_ret (v := .agg #[.slice A k c, .slice A2 (rtThere (rtRun q ds (rt0 σ0)).2).length c2, .slice A3 gl.length c3]) (by simp [results, Try.results41, go_sem, x1]) rfl ⟨A, c, A2, _, c2, A3, gl.length, c3, rfl, HF.out.below_, HF.out.rd 3 rfl, HF.out.rd 0 rfl, by rw [HGL.out]; exact HF.out.rd 4 rfl⟩
end Go.Proofs.Ytjphckfbbiehdaa

namespace Go.Proofs.Ytjphckfbbiehdaa
open Go.RowKit

set_option maxRecDepth 100000 in
set_option maxHeartbeats 16000000 in
theorem triPlays_ok (w : World) (AO AR Ad : Option Addr) (nO cO nR cR nd cd : Nat) (obs : List Ob) (roots : List Val) (ds : List DoV) (b : Int) (hcp : ∀ o ∈ obs, o.A = none → o.c = 0) (hO : ObsRd w (fun _ => True) AO nO obs) (hR : Rd w (fun _ => True) 2 AR nR (vals roots)) (hD : Rd w (fun _ => True) 5 Ad nd (dosV ds)) (hz : triErr nO nR nd obs roots b = 0) :
    Calls Try.prog 13 #[.agg #[.slice AO nO cO, .slice AR nR cR], .int .i64 b, .slice Ad nd cd] w fun e w' => e = .returned (.bool true) ∧ Below w.heap.size w w' := by
  obtain ⟨hx, hb, hnd⟩ : gcheck nO nR obs roots = 0 ∧ ¬ (b < 1 ∨ 3 < b) ∧ nd ≤ 100 := by
    unfold triErr at hz
    split at hz
    · rename_i h; exact absurd hz h
    · rename_i h
      split at hz
      · omega
      · rename_i hb
        split at hz
        · omega
        · exact ⟨by omega, hb, by omega⟩
  obtain ⟨q, rfl, hq, _⟩ := barV_iface hb
  have hG := gok_of hO hx
  obtain ⟨gs, hgs⟩ : ∃ gs, obs.map Ob.fields = gs := ⟨_, rfl⟩
  have hM : MOk ⟨padR roots nR, gs⟩ := by
    have h1 := hG.vg
    have h2 := hG.vr
    have h3 := hG.fs
    rw [hgs] at h1 h2 h3
    exact ⟨padR_len roots nR (by have := roots_len hR; omega) hG.nR_, padR_ok h2 nR, h1, h3⟩
  have hgl : gs.length = nO := by rw [← hgs, hG.len]
  have hdl : ds.length = nd := by have h := hD.1; rw [dosV_length] at h; omega
  obtain ⟨g, hg⟩ : ∃ g, w.heap.size = g := ⟨_, rfl⟩
  have hS0 := (Sep.nil No w).blkAt 27 #[.slice AO nO cO, .slice AR nR cR] hg
  obtain ⟨a1, a2, a3, a4⟩ := hS0.rules 0 (g := g) (t := 27) rfl
  have a5 := (a1 0).trans (show _ = some (.slice AO nO cO) from rfl)
  have a6 := (a1 1).trans (show _ = some (.slice AR nR cR) from rfl)
  have C1 := hide (triPlay_ok _ AO AR Ad nO cO nR cR nd cd obs roots gs ds q hq hgs (hO.below hS0.below_) (hR.below hS0.below_) hcp hz hM (hD.below hS0.below_))
  have C4 := hide (fun w' (hb : Below w.heap.size w w') => refCheck_any w' AO AR nO cO nR cR obs roots (hO.below hb) (hR.below hb))
  simp only [hx] at C4
  have C5 := hide (fun w' (hb : Below w.heap.size w w') => refTri_any w' AO AR Ad nO cO nR cR nd cd obs roots gs ds q hq hgs (hO.below hb) (hR.below hb) hG.nO_ hG.nR_ hG.fl hM (hD.below hb) hnd)
  obtain ⟨o1, o2, o3, o4⟩ := rtRun_ok hq ds (rt0_ok q hM (by show gs.length ≤ 400; have := hG.nO_; omega)) (by show gs.length + ds.length ≤ 400; have := hG.nO_; omega)
  rw [rt0_a] at o4
  obtain ⟨R, hRn⟩ : ∃ r, rtRun q ds (rt0 ⟨padR roots nR, gs⟩) = r := ⟨_, rfl⟩
  simp only [o4] at C1
  rw [hRn] at o1 o2 o3
  simp only [hRn] at C1 C5
  simp only [rtThere_eq o1.len] at C1
  have hgg : R.2.a.gone = R.2.gl := rfl
  simp only [hgg] at C1
  have hon : R.1.length ≤ 1000 := by omega
  have hrl : (rtThere R.2).length ≤ 1000 := by
    unfold rtThere
    rw [List.length_map]
    have h1 := thereK_len (goneO R.2.gone) R.2.gone.length
    rw [thereG_K]
    have h2 := o1.len
    have h3 : (rt0 ⟨padR roots nR, gs⟩).σ.objs.length = gs.length := rfl
    have h4 := hG.nO_
    omega
  obtain ⟨os, hos⟩ : ∃ l, R.1 = l := ⟨_, rfl⟩
  obtain ⟨ts, hts⟩ : ∃ l, rtThere R.2 = l := ⟨_, rfl⟩
  obtain ⟨gl, hgl2⟩ : ∃ l, R.2.gl = l := ⟨_, rfl⟩
  rw [hos] at hon o3
  rw [hts] at hrl
  simp only [hos, hts, hgl2] at C1 C5
  have HTL := hide hrl
  have HOL := hide o3
  have C6 := hide (fun (X : World) (A1 A2 : Option Addr) (c1 c2 : Nat) (h1 : Rd X (fun _ => True) 3 A1 nd (outsV os)) (h2 : Rd X (fun _ => True) 3 A2 nd (outsV os)) => outs_any X A1 A2 nd c1 c2 os (by omega) h1 h2)
  have C7 := hide (fun (X : World) (A1 A2 : Option Addr) (n c1 c2 : Nat) (hn : n ≤ 1000) (h1 : Rd X (fun _ => True) 2 A1 n (countsV ts)) (h2 : Rd X (fun _ => True) 2 A2 n (countsV ts)) => counts_any X A1 A2 n c1 c2 ts hn h1 h2)
  have C8 := hide (fun (X : World) (A1 A2 : Option Addr) (n c1 c2 : Nat) (hn : n ≤ 9223372036854775807) (h1 : Rd X (fun _ => True) 1 A1 n (ints gl)) (h2 : Rd X (fun _ => True) 1 A2 n (ints gl)) => ints_same X (fun _ => True) (fun _ => True) A1 A2 n c1 c2 gl hn h1 h2)
  have HGLN := hide (show gl.length ≤ 100000 from by
    have h1 := (rt_at hq hM ds (by show gs.length ≤ 24; have := hG.nO_; omega) (by omega) ds.length (Nat.le_refl _)).2.2.2
    rw [List.take_length, hRn, hgl2] at h1
    omega)
  have HS0 := hide hS0
  have t1 : decide ((q : Int) < 1) = false := by simp; omega
  have t2 : decide ((3 : Int) < (q : Int)) = false := by simp; omega
  have t3 : decide ((100 : Int) < (nd : Int)) = false := by simp; omega
  have t4 : decide (100 < nd) = false := by simp; omega
  clear hS0 a4 a1 hO hR hz hx hG hM hD hgs o1 o2 o4 hRn hgg hos hts hgl2 hrl o3 hon hcp hq hb hgl hdl
  go_enter Try.func13, Try.ntmps13
  go_wp2_with fail
  refine C1.out.mono ?_
  rintro e w1 ⟨A1, c1, A2, n2, c2, A3, n3, c3, rfl, hb1, hr1, hr2, hr3⟩
  have hn2 : n2 = ts.length := by have h := hr2.1; rw [countsV_length] at h; omega
  have hn3 : n3 = gl.length := by have h := hr3.1; simp at h; omega
  have HTN := hide hn2.symm
  have HGN := hide hn3.symm
  rw [← hn2] at HTL
  rw [← hn3] at HGLN
  clear hn2 hn3
  obtain ⟨g1, hg1⟩ : ∃ g, w1.heap.size = g := ⟨_, rfl⟩
  have hS1 := (HS0.out.below hb1).blkAt 94 #[.slice A1 nd c1, .slice A2 n2 c2, .slice A3 n3 c3] hg1
  have hW : Below w1.heap.size w1 (w1.alloc (.cells #[.slice A1 nd c1, .slice A2 n2 c2, .slice A3 n3 c3] 94)) := (Below.refl _ w1).alloc (Nat.le_refl _) _
  have HR1 := hide ((hr1.more (D' := fun k => k < g1) (fun k hk _ => by omega)).below hW)
  have HR2 := hide ((hr2.more (D' := fun k => k < g1) (fun k hk _ => by omega)).below hW)
  have HR3 := hide ((hr3.more (D' := fun k => k < g1) (fun k hk _ => by omega)).below hW)
  obtain ⟨b1, b2, b3, b4⟩ := hS1.rules 0 (g := g) (t := 27) rfl
  have b5 := (b1 0).trans (show _ = some (.slice AO nO cO) from rfl)
  have b6 := (b1 1).trans (show _ = some (.slice AR nR cR) from rfl)
  have C4 := hide (C4.out _ hS1.below_)
  have HS1 := hide hS1
  clear hb1 hS1 HS0 C1 a2 a3 a5 a6 b4 b1 hr1 hr2 hr3 hW
  go_wp2_with fail
  refine C4.out.mono ?_
  rintro e w4 ⟨rfl, hb4⟩
  obtain ⟨g4, hg4⟩ : ∃ g, w4.heap.size = g := ⟨_, rfl⟩
  have hg14 : g1 < g4 := by
    have h := hb4.size
    simp at h
    omega
  have hS4 := (HS1.out.below hb4).blkAt 94 #[.slice none 0 0, .slice none 0 0, .slice none 0 0] hg4
  have hW4 : Below w4.heap.size w4 (w4.alloc (.cells #[.slice none 0 0, .slice none 0 0, .slice none 0 0] 94)) := (Below.refl _ w4).alloc (Nat.le_refl _) _
  have HT1 := hide ((HR1.out.below hb4).below hW4)
  have HT2 := hide ((HR2.out.below hb4).below hW4)
  have HT3 := hide ((HR3.out.below hb4).below hW4)
  obtain ⟨b1, b2, b3, b4⟩ := hS4.rules 0 (g := g) (t := 27) rfl
  have b5 := (b1 0).trans (show _ = some (.slice AO nO cO) from rfl)
  have b6 := (b1 1).trans (show _ = some (.slice AR nR cR) from rfl)
  have C5 := hide (C5.out _ hS4.below_)
  have HS4 := hide hS4
  have HG14 := hide hg14
  have HG4 := hide hg4
  clear hb4 hS4 HS1 C4 b4 b1 hW4 HR1 HR2 HR3
  go_wp2_with fail
  refine C5.out.mono ?_
  rintro e w5 ⟨B1, d1, B2, m2, d2, B3, m3, d3, rfl, hb5, hq1, hq2, hq3⟩
  have hm2 : m2 = n2 := by have h := hq2.1; rw [countsV_length, HTN.out] at h; omega
  have hm3 : m3 = n3 := by have h := hq3.1; simp at h; have h2 := HGN.out; omega
  subst hm2 hm3
  have hS5 := HS4.out.below hb5
  have hsz5 : g4 < w5.heap.size := hS5.hi 2 rfl g4 rfl
  have hlo : ∀ k, (w4.alloc (.cells #[.slice none 0 0, .slice none 0 0, .slice none 0 0] 94)).heap.size ≤ k → k ≠ g4 := fun k hk => by simp at hk; omega
  have hch : Chg (fun k => k = g4) w5 (((w5.setCell ⟨g4, 0, none⟩ (.slice B1 nd d1)).setCell ⟨g4, 1, none⟩ (.slice B2 m2 d2)).setCell ⟨g4, 2, none⟩ (.slice B3 m3 d3)) := (((Chg.refl (fun k => k = g4) w5).setCell (p := ⟨g4, 0, none⟩) (.inl rfl) _).setCell (p := ⟨g4, 1, none⟩) (.inl rfl) _).setCell (p := ⟨g4, 2, none⟩) (.inl rfl) _
  have hS6 := ((hS5.set_ 2 (g := g4) (t := 94) rfl 0 (.slice B1 nd d1)).set_ 2 (g := g4) (t := 94) rfl 1 (.slice B2 m2 d2)).set_ 2 (g := g4) (t := 94) rfl 2 (.slice B3 m3 d3)
  have HU1 := hide (((HT1.out.below hb5).chg hch (fun k hk hd => by have := HG14.out; omega)).more (D' := fun _ => True) (fun _ _ _ => trivial))
  have HU2 := hide (((HT2.out.below hb5).chg hch (fun k hk hd => by have := HG14.out; omega)).more (D' := fun _ => True) (fun _ _ _ => trivial))
  have HU3 := hide (((HT3.out.below hb5).chg hch (fun k hk hd => by have := HG14.out; omega)).more (D' := fun _ => True) (fun _ _ _ => trivial))
  have HQ1 := hide ((hq1.chg hch (fun k hk hd => hlo k hd hk)).more (D' := fun _ => True) (fun _ _ _ => trivial))
  have HQ2 := hide ((hq2.chg hch (fun k hk hd => hlo k hd hk)).more (D' := fun _ => True) (fun _ _ _ => trivial))
  have HQ3 := hide ((hq3.chg hch (fun k hk hd => hlo k hd hk)).more (D' := fun _ => True) (fun _ _ _ => trivial))
  obtain ⟨z1, z2, z3, _⟩ := hS5.rules 2 (g := g4) (t := 94) rfl
  have z5 := (z1 0).trans (show _ = some (.slice none 0 0) from rfl)
  have z6 := (z1 1).trans (show _ = some (.slice none 0 0) from rfl)
  have z7 := (z1 2).trans (show _ = some (.slice none 0 0) from rfl)
  obtain ⟨x1, x2, x3, _⟩ := hS5.rules 1 (g := g1) (t := 94) rfl
  have x5 := (x1 0).trans (show _ = some (.slice A1 nd c1) from rfl)
  have x6 := (x1 1).trans (show _ = some (.slice A2 m2 c2) from rfl)
  have x7 := (x1 2).trans (show _ = some (.slice A3 m3 c3) from rfl)
  have n1 : g1 ≠ g4 := by omega
  have n2 : g4 ≠ g1 := by omega
  have C6 := hide (C6.out (((w5.setCell ⟨g4, 0, none⟩ (.slice B1 nd d1)).setCell ⟨g4, 1, none⟩ (.slice B2 m2 d2)).setCell ⟨g4, 2, none⟩ (.slice B3 m3 d3)) A1 B1 c1 d1 HU1.out HQ1.out)
  have HS6 := hide hS6
  clear hb5 hS5 hS6 HS4 C5 x1 z1 hq1 hq2 hq3 hlo hch b2 b3 b5 b6 HU1 HQ1 hg4 hg14 HT1 HT2 HT3
  go_wp2_with fail
  refine C6.out.mono ?_
  rintro e w6 ⟨rfl, hb6⟩
  have hS7 := HS6.out.below hb6
  obtain ⟨x1, x2, x3, _⟩ := hS7.rules 1 (g := g1) (t := 94) rfl
  have x6 := (x1 1).trans (show _ = some (.slice A2 m2 c2) from rfl)
  have x7 := (x1 2).trans (show _ = some (.slice A3 m3 c3) from rfl)
  obtain ⟨y1, y2, y3, _⟩ := hS7.rules 2 (g := g4) (t := 94) rfl
  have y6 := (y1 1).trans (show _ = some (.slice B2 m2 d2) from rfl)
  have y7 := (y1 2).trans (show _ = some (.slice B3 m3 d3) from rfl)
  have C7 := hide (C7.out w6 A2 B2 m2 c2 d2 HTL.out (HU2.out.below hb6) (HQ2.out.below hb6))
  have HV3 := hide (HU3.out.below hb6)
  have HX3 := hide (HQ3.out.below hb6)
  have HS7 := hide hS7
  clear hb6 hS7 HS6 C6 x1 y1 HU2 HQ2 HU3 HQ3 z2 z3 z5 z6 z7
  go_wp2_with fail
  refine C7.out.mono ?_
  rintro e w7 ⟨rfl, hb7⟩
  have hS8 := HS7.out.below hb7
  obtain ⟨x1, x2, x3, _⟩ := hS8.rules 1 (g := g1) (t := 94) rfl
  have x7 := (x1 2).trans (show _ = some (.slice A3 m3 c3) from rfl)
  obtain ⟨y1, y2, y3, _⟩ := hS8.rules 2 (g := g4) (t := 94) rfl
  have y7 := (y1 2).trans (show _ = some (.slice B3 m3 d3) from rfl)
  have C8 := hide (C8.out w7 A3 B3 m3 c3 d3 (by have := HGLN.out; omega) (HV3.out.below hb7) (HX3.out.below hb7))
  have HS8 := hide hS8
  clear hb7 hS8 HS7 C7 x1 y1 HV3 HX3
  go_wp2_with fail
  refine C8.out.mono ?_
  rintro e w8 ⟨rfl, hb8⟩
  have HB8 := hide (HS8.out.below hb8).below_
  clear hb8 HS8
  go_wp2_with fail
  go_ret
  exact ⟨rfl, HB8.out⟩
theorem triPlays_walk (w : World) (AO AR Ad : Option Addr) (nO cO nR cR nd cd : Nat) (obs : List Ob) (roots : List Val) (ds : List DoV) (b : Int) (hcp : Caps obs) (hO : ObsRd w (fun _ => True) AO nO obs) (hR : Rd w (fun _ => True) 2 AR nR (vals roots)) (hD : Rd w (fun _ => True) 5 Ad nd (dosV ds)) :
    Calls Try.prog 13 #[.agg #[.slice AO nO cO, .slice AR nR cR], .int .i64 b, .slice Ad nd cd] w fun e w' => e = .returned (.bool true) ∧ Below w.heap.size w w' := by
  by_cases hz : triErr nO nR nd obs roots b = 0
  · exact triPlays_ok w AO AR Ad nO cO nR cR nd cd obs roots ds b (fun o ho => (hcp o ho).2) hO hR hD hz
  · exact triPlays_no w AO AR Ad nO cO nR cR nd cd obs roots b hO hR hz
end Go.Proofs.Ytjphckfbbiehdaa
