/- The reference's Tri: its loop's body; plain words. The reference's Tri: a round, where the deed is Sweep. The reference's Tri: a round, where the deed is Work. -/
import Derived.Test.YtjphckfbbiehdaaGTriPlays9
import Derived.Test.YtjphckfbbiehdaaGTriPlays7
import Derived.Deep.DeepCutAuto
set_option linter.unusedSimpArgs false
set_option linter.unusedVariables false
namespace Go.Proofs.Ytjphckfbbiehdaa
open Go.RowKit

theorem goneL_get (gone : List Bool) (xs : List Int) (j : Nat) (h : ∀ x ∈ xs, 0 ≤ x ∧ x < (j : Int)) : (goneL gone xs)[j]? = gone[j]? := by
  unfold goneL
  induction xs generalizing gone with
  | nil => rfl
  | cons x xs ih =>
    rw [List.foldl_cons, ih _ (fun y hy => h y (List.mem_cons_of_mem _ hy)), List.getElem?_set, if_neg]
    have := h x (List.mem_cons_self ..)
    omega
theorem thereK_lt {α : Type} (l : List (Option α)) (k : Nat) : ∀ x ∈ thereK l k, 0 ≤ x ∧ x < (k : Int) := by
  intro x hx
  unfold thereK at hx
  obtain ⟨i, hi, rfl⟩ := List.mem_map.1 hx
  have := List.mem_range.1 (List.mem_filter.1 hi).1
  omega
theorem whitesF_app (a b C : List Int) : whitesF (a ++ b) C = whitesF a C ++ whitesF b C := by unfold whitesF; rw [List.filter_append]
def SdS.g (s : SdS) (G : List Bool) (C : List Int) : SdS := { s with m := { s.m with gone := G }, cols := C }

def firstLoop : Code → Option Code
  | .loop c => some c
  | .seq a b => match firstLoop a with
    | some c => some c
    | none => firstLoop b
  | .block _ c => firstLoop c
  | .scope c => firstLoop c
  | .cond _ a b => match firstLoop a with
    | some c => some c
    | none => firstLoop b
  | _ => none
noncomputable def triBody : Code := ((Try.f41.body.bind firstLoop).getD .skip)
end Go.Proofs.Ytjphckfbbiehdaa

namespace Go.Proofs.Ytjphckfbbiehdaa
open Go.RowKit

set_option maxRecDepth 1000000 in
set_option maxHeartbeats 64000000 in
theorem rt_caseSweep {w wr : World} {AO AR Ad : Option Addr} {nO cO nR cR nd cd q g Bs gO : Nat} {ds : List DoV} {σ0 : MSt} {k c c3 : Nat} {A A3 : Option Addr} {s : SdS} {gl : List Int} {u10 u11 u13 u14 u16 u17 u34 u35 u36 u37 u38 u39 u40 u41 u42 u43 u44 u45 u46 u47 u48 u49 u50 u51 u52 u53 u54 u55 u56 u57 u58 u59 u60 u61 u62 u63 u64 u65 u66 u67 u68 u69 u70 u71 u72 u73 u74 u75 u76 u77 u78 u79 u80 u81 u82 u83 u84 u85 u86 u87 u88 u89 u90 u91 u92 u93 u94 u95 u96 u97 u98 u99 u100 u101 u102 u103 u104 u105 u106 u107 u108 u109 u110 u111 u112 u113 u114 u115 u116 u117 u118 u119 u120 u121 u122 u123 u124 u125 u126 u127 u128 u129 u130 u131 u132 u133 u134 u135 u136 u137 u138 u139 u140 u141 u142 u143 u144 u145 u146 u147 u148 u149 u150 u151 u152 u153 u154 u155 u156 u157 u158 u159 u160 u161 u162 u163 u164 u165 u166 u167 u168 u169 u170 u171 u172 u173 u174 u175 u176 u177 u178 u179 u180 u181 u182 u183 u184 u185 u186 u187 u188 u189 u190 u191 u192 u193 u194 u195 u196 u197 u198 u19 u20 u21 u22 u23 u24 u25 u26 u27 u : Value} {Q0 : Exit → Act → World → Prop} (hg : w.heap.size = g) (hnd : nd ≤ 100) (HDL : Hid (ds.length = nd)) (HQ : Hid (q = 1 ∨ q = 2 ∨ q = 3)) (hD : Rd w (fun _ => True) 5 Ad nd (dosV ds))
    (HAT : Hid (∀ k, k ≤ ds.length → RtOk q (rtRun q (ds.take k) (rt0 σ0)).2 ∧ (rtRun q (ds.take k) (rt0 σ0)).2.σ.objs.length ≤ 24 + k ∧ (rtRun q (ds.take k) (rt0 σ0)).1.length = k ∧ (rtRun q (ds.take k) (rt0 σ0)).2.gl.length ≤ k * 200))
    (hk : k ≤ nd) (hlt : k < nd) (HI : Hid (s.t gl = (rtRun q (ds.take k) (rt0 σ0)).2 ∧ s.q = (q : Int)))
    (hS : Sep No w wr [sdI Bs s, blkI gO 94 #[.slice A k c, .slice none 0 0, .slice A3 gl.length c3], rowI 41 3 A k c (outsV (rtRun q (ds.take k) (rt0 σ0)).1), rowI 3 1 A3 gl.length c3 (ints gl), blkI g 27 #[.slice AO nO cO, .slice AR nR cR], blkI (g + 1) 94 #[.slice none 0 0, .slice none 0 0, .slice none 0 0]])
    (hkl : k < ds.length) (hd9 : ds[k].k = 9) :
    Code.wp Try.prog triBody (Exit.then (fun a' w' => (∃ u10 u11 u13 u14 u16 u17 u33 u34 u35 u36 u37 u38 u39 u40 u41 u42 u43 u44 u45 u46 u47 u48 u49 u50 u51 u52 u53 u54 u55 u56 u57 u58 u59 u60 u61 u62 u63 u64 u65 u66 u67 u68 u69 u70 u71 u72 u73 u74 u75 u76 u77 u78 u79 u80 u81 u82 u83 u84 u85 u86 u87 u88 u89 u90 u91 u92 u93 u94 u95 u96 u97 u98 u99 u100 u101 u102 u103 u104 u105 u106 u107 u108 u109 u110 u111 u112 u113 u114 u115 u116 u117 u118 u119 u120 u121 u122 u123 u124 u125 u126 u127 u128 u129 u130 u131 u132 u133 u134 u135 u136 u137 u138 u139 u140 u141 u142 u143 u144 u145 u146 u147 u148 u149 u150 u151 u152 u153 u154 u155 u156 u157 u158 u159 u160 u161 u162 u163 u164 u165 u166 u167 u168 u169 u170 u171 u172 u173 u174 u175 u176 u177 u178 u179 u180 u181 u182 u183 u184 u185 u186 u187 u188 u189 u190 u191 u192 u193 u194 u195 u196 u197 u198 : Value, (∃ (k : Nat) (A : Option Addr) (c : Nat) (s : SdS) (A3 : Option Addr) (c3 : Nat) (gl : List Int), k ≤ nd ∧ u33 = .int .i64 k ∧ Hid (s.t gl = (rtRun q (ds.take k) (rt0 σ0)).2 ∧ s.q = (q : Int)) ∧
      Sep No w w' [sdI Bs s, blkI gO 94 #[.slice A k c, .slice none 0 0, .slice A3 gl.length c3], rowI 41 3 A k c (outsV (rtRun q (ds.take k) (rt0 σ0)).1), rowI 3 1 A3 gl.length c3 (ints gl), blkI g 27 #[.slice AO nO cO, .slice AR nR cR], blkI (g + 1) 94 #[.slice none 0 0, .slice none 0 0, .slice none 0 0]]) ∧ a' = ⟨#[.agg #[.slice AO nO cO, .slice AR nR cR], .int .i64 q, .slice Ad nd cd, .pointer (some ⟨g, 0, none⟩), undef, undef, .pointer (some ⟨g + 1, 0, none⟩), .pointer (some ⟨Bs, 0, none⟩), .pointer (some ⟨gO, 0, none⟩), undef, u10, u11, undef, u13, u14, undef, u16, u17, undef, u19, u20, u21, u22, u23, u24, u25, u26, u27, .pointer (some ⟨Bs, 0, none⟩), u, .agg #[.slice none 0 0, .slice none 0 0, .slice none 0 0], .slice Ad nd cd, .int .i64 nd, u33, u34, u35, u36, u37, u38, u39, u40, u41, u42, u43, u44, u45, u46, u47, u48, u49, u50, u51, u52, u53, u54, u55, u56, u57, u58, u59, u60, u61, u62, u63, u64, u65, u66, u67, u68, u69, u70, u71, u72, u73, u74, u75, u76, u77, u78, u79, u80, u81, u82, u83, u84, u85, u86, u87, u88, u89, u90, u91, u92, u93, u94, u95, u96, u97, u98, u99, u100, u101, u102, u103, u104, u105, u106, u107, u108, u109, u110, u111, u112, u113, u114, u115, u116, u117, u118, u119, u120, u121, u122, u123, u124, u125, u126, u127, u128, u129, u130, u131, u132, u133, u134, u135, u136, u137, u138, u139, u140, u141, u142, u143, u144, u145, u146, u147, u148, u149, u150, u151, u152, u153, u154, u155, u156, u157, u158, u159, u160, u161, u162, u163, u164, u165, u166, u167, u168, u169, u170, u171, u172, u173, u174, u175, u176, u177, u178, u179, u180, u181, u182, u183, u184, u185, u186, u187, u188, u189, u190, u191, u192, u193, u194, u195, u196, u197, u198, undef, undef, undef, undef, undef, undef, undef, undef, undef, undef, undef, undef, undef, undef, undef, undef, undef, undef, undef, undef, undef, undef, undef, undef, undef, undef, undef, undef, undef, undef, undef, undef, undef, undef, undef], []⟩) ∧ nd - (intOf (a'.tmps.getD 33 undef)).toNat < nd - (intOf (#[.agg #[.slice AO nO cO, .slice AR nR cR], .int .i64 q, .slice Ad nd cd, .pointer (some ⟨g, 0, none⟩), undef, undef, .pointer (some ⟨g + 1, 0, none⟩), .pointer (some ⟨Bs, 0, none⟩), .pointer (some ⟨gO, 0, none⟩), undef, u10, u11, undef, u13, u14, undef, u16, u17, undef, u19, u20, u21, u22, u23, u24, u25, u26, u27, .pointer (some ⟨Bs, 0, none⟩), u, .agg #[.slice none 0 0, .slice none 0 0, .slice none 0 0], .slice Ad nd cd, .int .i64 nd, .int .i64 k, u34, u35, u36, u37, u38, u39, u40, u41, u42, u43, u44, u45, u46, u47, u48, u49, u50, u51, u52, u53, u54, u55, u56, u57, u58, u59, u60, u61, u62, u63, u64, u65, u66, u67, u68, u69, u70, u71, u72, u73, u74, u75, u76, u77, u78, u79, u80, u81, u82, u83, u84, u85, u86, u87, u88, u89, u90, u91, u92, u93, u94, u95, u96, u97, u98, u99, u100, u101, u102, u103, u104, u105, u106, u107, u108, u109, u110, u111, u112, u113, u114, u115, u116, u117, u118, u119, u120, u121, u122, u123, u124, u125, u126, u127, u128, u129, u130, u131, u132, u133, u134, u135, u136, u137, u138, u139, u140, u141, u142, u143, u144, u145, u146, u147, u148, u149, u150, u151, u152, u153, u154, u155, u156, u157, u158, u159, u160, u161, u162, u163, u164, u165, u166, u167, u168, u169, u170, u171, u172, u173, u174, u175, u176, u177, u178, u179, u180, u181, u182, u183, u184, u185, u186, u187, u188, u189, u190, u191, u192, u193, u194, u195, u196, u197, u198, undef, undef, undef, undef, undef, undef, undef, undef, undef, undef, undef, undef, undef, undef, undef, undef, undef, undef, undef, undef, undef, undef, undef, undef, undef, undef, undef, undef, undef, undef, undef, undef, undef, undef, undef].getD 33 undef)).toNat) Q0) ⟨#[.agg #[.slice AO nO cO, .slice AR nR cR], .int .i64 q, .slice Ad nd cd, .pointer (some ⟨g, 0, none⟩), undef, undef, .pointer (some ⟨g + 1, 0, none⟩), .pointer (some ⟨Bs, 0, none⟩), .pointer (some ⟨gO, 0, none⟩), undef, u10, u11, undef, u13, u14, undef, u16, u17, undef, u19, u20, u21, u22, u23, u24, u25, u26, u27, .pointer (some ⟨Bs, 0, none⟩), u, .agg #[.slice none 0 0, .slice none 0 0, .slice none 0 0], .slice Ad nd cd, .int .i64 nd, .int .i64 k, u34, u35, u36, u37, u38, u39, u40, u41, u42, u43, u44, u45, u46, u47, u48, u49, u50, u51, u52, u53, u54, u55, u56, u57, u58, u59, u60, u61, u62, u63, u64, u65, u66, u67, u68, u69, u70, u71, u72, u73, u74, u75, u76, u77, u78, u79, u80, u81, u82, u83, u84, u85, u86, u87, u88, u89, u90, u91, u92, u93, u94, u95, u96, u97, u98, u99, u100, u101, u102, u103, u104, u105, u106, u107, u108, u109, u110, u111, u112, u113, u114, u115, u116, u117, u118, u119, u120, u121, u122, u123, u124, u125, u126, u127, u128, u129, u130, u131, u132, u133, u134, u135, u136, u137, u138, u139, u140, u141, u142, u143, u144, u145, u146, u147, u148, u149, u150, u151, u152, u153, u154, u155, u156, u157, u158, u159, u160, u161, u162, u163, u164, u165, u166, u167, u168, u169, u170, u171, u172, u173, u174, u175, u176, u177, u178, u179, u180, u181, u182, u183, u184, u185, u186, u187, u188, u189, u190, u191, u192, u193, u194, u195, u196, u197, u198, undef, undef, undef, undef, undef, undef, undef, undef, undef, undef, undef, undef, undef, undef, undef, undef, undef, undef, undef, undef, undef, undef, undef, undef, undef, undef, undef, undef, undef, undef, undef, undef, undef, undef, undef], []⟩ wr := by
  conv => arg 2; whnf
  obtain ⟨hrt, hol, _, hgl⟩ := HAT.out k (by have := HDL.out; omega)
  rw [← HI.out.1] at hrt hol hgl
  have hgl2 : gl.length ≤ 100000 := by have h1 : (s.t gl).gl.length = gl.length := rfl; omega
  obtain ⟨hok, hcl, hgc2⟩ := sd_ok hrt (by omega)
  have HOK := hide hok
  have HCL := hide hcl
  have HGC := hide hgc2
  have HRT := hide hrt
  have hcn : s.cols.length ≤ 500 := by have := hok.n; omega
  have HCN := hide hcn
  have hon : s.m.obs.length ≤ 500 := hok.n
  have hr8 : s.m.regs.length = 8 := hok.m.r8
  have HR8 := hide hr8
  have HVR := hide (fun v (hv : v ∈ s.m.regs) => show vin s.cols.length v from fun h1 => by
    obtain ⟨h2, h3⟩ := hok.m.vr v hv h1
    obtain ⟨z, hz⟩ := int_nat h2
    have hps : (absR s.m).objs.length = s.m.obs.length := by simp [absR]
    exact ⟨z, hz, by omega⟩)
  have HVO := hide (fun (i : Nat) (hi : i < s.m.obs.length) v (hv : v ∈ s.m.obs[i].fields) => show vin s.cols.length v from fun h1 => by
    obtain ⟨h2, h3⟩ := hok.m.vo _ (List.mem_map.2 ⟨s.m.obs[i], List.getElem_mem hi, rfl⟩) v hv h1
    obtain ⟨z, hz⟩ := int_nat h2
    have hps : (absR s.m).objs.length = s.m.obs.length := by simp [absR]
    exact ⟨z, hz, by omega⟩)
  clear hrt hok hcl hgc2 hol hgl hr8
  obtain ⟨v0, v1, v2, v3, v4⟩ := dosV_at ds k hkl
  obtain ⟨ad, hA, _, had, hc, hd⟩ := (hD.below hS.below_).atN hlt
  have e0 := hc _ v0
  have e1 := hd 0 _ v1
  have e2 := hd 1 _ v2
  have e3 := hd 2 _ v3
  have e4 := hd 3 _ v4
  have hrs := rtRun_at q ds (rt0 σ0) k hkl
  rw [← HI.out.1] at hrs
  obtain ⟨d, hd'⟩ : ∃ d, ds[k] = d := ⟨_, rfl⟩
  rw [hd'] at e0 e1 e2 e3 e4 hrs
  obtain ⟨gd, hgd⟩ : ∃ x, wr.heap.size = x := ⟨_, rfl⟩
  have hS2 := (hS.blkAt 39 d.cells hgd).blkAt 41 #[.int .i64 0, .bool false, .int .i64 0] (g := gd + 1) (by simp [hgd])
  have hgO := hS.hi 1 rfl gO rfl
  have n1 : gO ≠ gd := by omega
  have n2 : gO ≠ gd + 1 := by omega
  have n3 : gd ≠ gO := by omega
  have n4 : gd + 1 ≠ gO := by omega
  have n5 : gd + 1 ≠ gd := by omega
  have n6 : gd ≠ gd + 1 := by omega
  have hBs := hS.hi 0 rfl Bs ⟨_, List.mem_cons_self .., rfl⟩
  have n7 : Bs ≠ gd := by omega
  have n8 : Bs ≠ gd + 1 := by omega
  have n9 : gd ≠ Bs := by omega
  have n10 : gd + 1 ≠ Bs := by omega
  have n16 : gO ≠ Bs := fun e => hS.other (a := 1) (b := 0) rfl rfl (by omega) gO rfl ⟨blkI Bs 218 (sdC s), by simp [sdR], e⟩
  have n17 : Bs ≠ gO := fun e => n16 e.symm
  subst hA
  have h9 : d.k = 9 := by rw [← hd']; exact hd9
  clear hd9
  obtain ⟨dk, dto, dfr, dat, dn⟩ := d
  unfold DoV.cells at hS2
  dsimp only at hS2 h9 e0 e1 e2 e3 e4
  subst h9
  obtain ⟨b0, -, -, b3, -⟩ := sd_cells (hS2.get 0 rfl)
  obtain ⟨m0, -, -, m3, -⟩ := rm_mem (sd_mem (hS2.get 0 rfl))
  rw [HR8.out] at m0
  obtain ⟨a1, a2, a3, _⟩ := hS2.rules 6 (g := gd) (t := 39) rfl
  have g0 := (a1 0).trans (show _ = some (.int .i64 9) from rfl)
  have HS2 := hide hS2
  have HRS0 := hide hrs
  clear hrs a1 hS2 hS hc hd v0 v1 v2 v3 v4 hd'
  go_wp2_with fail
  go_loopw [49] (fun i2 wr => ∃ j : Nat, j ≤ 8 ∧ i2 = .int .i64 j ∧ Sep No w wr [sdI Bs (s.col (shadeL s.cols (s.m.regs.take j))), blkI gO 94 #[.slice A k c, .slice none 0 0, .slice A3 gl.length c3], rowI 41 3 A k c (outsV (rtRun q (ds.take k) (rt0 σ0)).1), rowI 3 1 A3 gl.length c3 (ints gl), blkI g 27 #[.slice AO nO cO, .slice AR nR cR], blkI (g + 1) 94 #[.slice none 0 0, .slice none 0 0, .slice none 0 0], blkI gd 39 #[.int .i64 9, .int .i64 dto, .int .i64 dfr, .int .i64 dat, .int .i64 dn], blkI (gd + 1) 41 #[.int .i64 0, .bool false, .int .i64 0]]) (fun i2 _ => 8 - (intOf i2).toNat)
  case atStart => exact ⟨0, by omega, rfl, HS2.out⟩
  case round =>
    clear HS2 b0 b3 m0 m3 a2 a3 g0
    obtain ⟨j, hj, rfl, hS⟩ := hrel
    by_cases hlt2 : j < 8
    · have hjl : j < s.m.regs.length := by rw [HR8.out]; exact hlt2
      obtain ⟨d1, d2, -, -, d5⟩ := rm_reg (Bm := s.Bm) (s := s.m) (sd_mem (s := s.col (shadeL s.cols (s.m.regs.take j))) (hS.get 0 rfl)) HR8.out j hlt2
      have hv0 : rgA s.m.regs (j : Int) = s.m.regs[j] := by unfold rgA; rw [Int.toNat_natCast, List.getD_eq_getElem?_getD, List.getElem?_eq_getElem hjl]; rfl
      have hT := List.take_succ_eq_append_getElem hjl
      have hvv := HVR.out s.m.regs[j] (List.getElem_mem hjl)
      rw [hv0] at d1 d2
      obtain ⟨v, hv⟩ : ∃ v, s.m.regs[j] = v := ⟨_, rfl⟩
      rw [hv] at d1 d2 hT hvv
      have HT := hide (show shadeL s.cols (s.m.regs.take (j + 1)) = shadeC (shadeL s.cols (s.m.regs.take j)) v from by rw [hT, shadeL_snoc])
      have HLK := hide (shadeL_len s.cols (s.m.regs.take j))
      obtain ⟨CK, hCK⟩ : ∃ c, shadeL s.cols (s.m.regs.take j) = c := ⟨_, rfl⟩
      rw [hCK] at HLK HT hS
      have C := hide (fun (X : World) (h : (sdI Bs (s.col CK)).P X) => rshade_any h (by show CK.length ≤ 1000; rw [HLK.out]; omega) v (by show vin CK.length v; rw [HLK.out]; exact hvv))
      have HS := hide hS
      obtain ⟨bv1, mv⟩ := v
      dsimp only at C d1 d2 HT
      clear hT hvv hv hv0 hCK hS hjl
      go_wp2_with fail
      refine (C.out _ ((HS.out.alloc (.cells #[.bool bv1, .int .i64 mv] 107)).get 0 rfl)).mono ?_
      rintro e w5 ⟨⟨u, rfl⟩, hP5⟩
      have HS5 := hide ((HS.out.alloc (.cells #[.bool bv1, .int .i64 mv] 107)).call 0 rfl hP5)
      clear hP5 C HS
      go_wp2_with fail
      go_roundw
      case rel => exact ⟨j + 1, by omega, by go_num, by rw [HT.out]; exact HS5.out⟩
      case measure => simp [intOf]; omega
    · obtain rfl : j = 8 := by omega
      have hall : s.m.regs.take 8 = s.m.regs := List.take_of_length_le (by rw [HR8.out]; exact Nat.le_refl _)
      rw [hall] at hS
      have HLK := hide (shadeL_len s.cols s.m.regs)
      obtain ⟨C, hC⟩ : ∃ c, shadeL s.cols s.m.regs = c := ⟨_, rfl⟩
      have HC := hide hC
      rw [hC] at HLK hS
      have hcn2 : C.length ≤ 500 := by rw [HLK.out]; exact hcn
      have CG := hide (rgrey_any (s := s.col C) (hS.get 0 rfl) (by show C.length ≤ 1000; omega) (by show s.m.gone.length = C.length; rw [HGC.out, HLK.out]))
      have HS := hide hS
      clear hall hC hS
      go_wp2_with fail
      refine CG.out.mono ?_
      rintro e w5 ⟨rfl, hb5⟩
      have hS5 := HS.out.below hb5
      obtain ⟨xg, hxg⟩ : ∃ x, greyF (thereG s.m.gone) C = x := ⟨_, rfl⟩
      have HXG := hide hxg
      replace hxg : greyF (thereG (s.col C).m.gone) (s.col C).cols = xg := hxg
      rw [hxg]
      obtain ⟨b0, -, -, b3, -⟩ := sd_cells (hS5.get 0 rfl)
      obtain ⟨a1, a2, a3, _⟩ := hS5.rules 6 (g := gd) (t := 39) rfl
      have g0 := (a1 0).trans (show _ = some (.int .i64 9) from rfl)
      obtain ⟨u1, u2, u3, _⟩ := hS5.rules 1 (g := gO) (t := 94) rfl
      have u5 := (u1 0).trans (show _ = some (.slice A k c) from rfl)
      obtain ⟨x1, x2, x3, _⟩ := hS5.rules 7 (g := gd + 1) (t := 41) rfl
      have x5 := (x1 0).trans (show _ = some (.int .i64 0) from rfl)
      have x6 := (x1 1).trans (show _ = some (.bool false) from rfl)
      have x7 := (x1 2).trans (show _ = some (.int .i64 0) from rfl)
      clear a1 u1 x1
      by_cases hg : xg = -1
      · subst hg
        have hst : rtStep q ⟨9, dto, dfr, dat, dn⟩ (s.t gl) = (⟨0, false, 0⟩, ((s.g (goneL s.m.gone (whitesF (thereK (goneO s.m.gone) C.length) C)) C).col (beginC C.length s.m.regs)).t (gl ++ whitesF (thereK (goneO s.m.gone) C.length) C)) := by
          unfold rtStep
          rw [if_neg (show ¬ (9 : Int) = 8 by decide), if_pos rfl]
          have h1 : shadeL (s.t gl).cols (s.t gl).σ.regs = C := HC.out
          have h2 : thereG s.m.gone = thereK (goneO s.m.gone) C.length := by rw [thereG_K, HGC.out, HLK.out]
          rw [h1, show thereG (s.t gl).gone = thereG s.m.gone from rfl, if_neg (by rw [HXG.out]; simp), h2, show (s.t gl).cols.length = C.length from HLK.out.symm]
          rfl
        have hrs := HRS0.out
        rw [hst] at hrs
        have HRS := hide hrs
        have HS5 := hide hS5
        obtain ⟨N, hN⟩ : ∃ x, C.length = x := ⟨_, rfl⟩
        have HN := hide hN
        have hN5 : N ≤ 500 := by rw [← hN]; exact hcn2
        clear hst hrs hS5 hb5 HS CG hxg hN hcn2
        go_wp2_with fail
        go_loopw [17] (fun i2 wr => ∃ (j : Nat) (A4 : Option Addr) (c4 : Nat), j ≤ N ∧ i2 = .int .i64 j ∧ Sep No w wr [sdI Bs (s.g (goneL s.m.gone (whitesF (thereK (goneO s.m.gone) j) C)) C), blkI gO 94 #[.slice A k c, .slice none 0 0, .slice A4 (gl ++ (whitesF (thereK (goneO s.m.gone) j) C)).length c4], rowI 41 3 A k c (outsV (rtRun q (ds.take k) (rt0 σ0)).1), rowI 3 1 A4 (gl ++ (whitesF (thereK (goneO s.m.gone) j) C)).length c4 (ints (gl ++ (whitesF (thereK (goneO s.m.gone) j) C))), blkI g 27 #[.slice AO nO cO, .slice AR nR cR], blkI (g + 1) 94 #[.slice none 0 0, .slice none 0 0, .slice none 0 0], blkI gd 39 #[.int .i64 9, .int .i64 dto, .int .i64 dfr, .int .i64 dat, .int .i64 dn], blkI (gd + 1) 41 #[.int .i64 0, .bool false, .int .i64 0]]) (fun i2 _ => N - (intOf i2).toNat)
        case atStart => exact ⟨0, A3, c3, by omega, rfl, by
          have e : whitesF (thereK (goneO s.m.gone) 0) C = [] := rfl
          rw [e, List.append_nil]
          exact HS5.out⟩
        case round =>
          clear HS5 b0 b3 a2 a3 g0 u2 u3 u5 x2 x3 x5 x6 x7
          obtain ⟨j, A4, c4, hj, rfl, hS⟩ := hrel
          have hwl : (whitesF (thereK (goneO s.m.gone) j) C).length ≤ j := by
            have h1 := List.length_filter_le (fun x : Int => decide (C.getD x.toNat 0 = 0)) (thereK (goneO s.m.gone) j)
            have h2 := thereK_len (goneO s.m.gone) j
            unfold whitesF
            omega
          obtain ⟨b0, -, b2, b3, -⟩ := sd_cells (hS.get 0 rfl)
          have hcN : (s.g (goneL s.m.gone (whitesF (thereK (goneO s.m.gone) j) C)) C).cols.length = N := HN.out
          rw [hcN] at b2
          by_cases hlt3 : j < N
          · have hkg : j < s.m.gone.length := by rw [HGC.out, ← HLK.out, HN.out]; exact hlt3
            obtain ⟨gc5, hAc5, c0, c1, -, c3', -, -⟩ := sd_cell (hS.get 0 rfl) (z := j) (by rw [hcN]; exact hlt3)
            rw [hcN] at c0
            clear b2
            obtain ⟨-, -, m2, m3, -⟩ := rm_mem (sd_mem (hS.get 0 rfl))
            have hgl5 : (s.g (goneL s.m.gone (whitesF (thereK (goneO s.m.gone) j) C)) C).m.gone.length = N := by show (goneL s.m.gone _).length = N; rw [goneL_len, HGC.out, ← HLK.out, HN.out]
            obtain ⟨gg, hgg, hz9, gv1, gv2, gv3⟩ := bools_at (rm_gone (sd_mem (hS.get 0 rfl))) (z := j) (by rw [hgl5]; exact hlt3)
            rw [hgg, hgl5] at m2
            have hgv : (s.g (goneL s.m.gone (whitesF (thereK (goneO s.m.gone) j) C)) C).m.gone[j] = s.m.gone[j] := by
              have h1 := goneL_get s.m.gone (whitesF (thereK (goneO s.m.gone) j) C) j (fun x hx => thereK_lt _ _ x (List.mem_filter.1 hx).1)
              have h2 : (s.g (goneL s.m.gone (whitesF (thereK (goneO s.m.gone) j) C)) C).m.gone[j]? = s.m.gone[j]? := h1
              rw [List.getElem?_eq_getElem hz9, List.getElem?_eq_getElem hkg] at h2
              exact Option.some.inj h2
            rw [hgv] at gv1
            have hT := thereG_succ s.m.gone hkg
            obtain ⟨b, hb⟩ : ∃ b, s.m.gone[j] = b := ⟨_, rfl⟩
            rw [hb] at gv1 hT
            obtain ⟨y, hy⟩ : ∃ y, C.getD j 0 = y := ⟨_, rfl⟩
            replace c1 : wr.cell? ⟨gc5, j, none⟩ = some (.int .i64 y) := by rw [← hy]; exact c1
            have hW : whitesF (thereK (goneO s.m.gone) (j + 1)) C = whitesF (thereK (goneO s.m.gone) j) C ++ (if b = true then [] else if y = 0 then [(j : Int)] else []) := by
              rw [hT, whitesF_app]
              congr 1
              cases b
              · rw [if_neg (by simp), if_neg (by simp)]
                unfold whitesF
                rw [List.filter_cons, List.filter_nil, Int.toNat_natCast, hy]
                by_cases h0 : y = 0
                · rw [if_pos h0, if_pos (by simpa using h0)]
                · rw [if_neg h0, if_neg (by simpa using h0)]
              · rfl
            have HW := hide hW
            have HS := hide hS
            obtain ⟨gl5, hgl6⟩ : ∃ x, (s.g (goneL s.m.gone (whitesF (thereK (goneO s.m.gone) j) C)) C).m.cg = x := ⟨_, rfl⟩
            obtain ⟨cc5, hcc6⟩ : ∃ x, (s.g (goneL s.m.gone (whitesF (thereK (goneO s.m.gone) j) C)) C).cc = x := ⟨_, rfl⟩
            rw [hgl6] at m2
            rw [hcc6] at c0
            replace b0 : wr.cell? ⟨Bs, 0, none⟩ = some (.pointer (some ⟨s.Bm, 0, none⟩)) := b0
            replace m2 : wr.cell? ⟨s.Bm, 2, none⟩ = some (.slice (some ⟨gg, 0, none⟩) N gl5) := m2
            replace m3 : s.Bm < wr.heap.size := m3
            have t3 : decide ((j : Int) < 0) = false := by simp
            have t4 : decide ((N : Int) ≤ (j : Int)) = false := by simp; omega
            have HGG := hide hgg
            clear hgl5 hgv hT hb hy hW hS hgl6 hcc6 hAc5 hcN hgg
            cases b with
            | true =>
              have hw2 : whitesF (thereK (goneO s.m.gone) (j + 1)) C = whitesF (thereK (goneO s.m.gone) j) C := by rw [HW.out, if_pos rfl, List.append_nil]
              have HW2 := hide hw2
              clear hw2 HW
              go_wp2_with fail
              go_roundw
              case rel => exact ⟨j + 1, A4, c4, by omega, by go_num, by rw [HW2.out]; exact HS.out⟩
              case measure => simp [intOf]; omega
            | false =>
              by_cases hy0 : y = 0
              · subst hy0
                have hw2 : whitesF (thereK (goneO s.m.gone) (j + 1)) C = whitesF (thereK (goneO s.m.gone) j) C ++ [(j : Int)] := by rw [HW.out, if_neg (by simp), if_pos rfl]
                have HW2 := hide hw2
                have hfpg : (sdI Bs (s.g (goneL s.m.gone (whitesF (thereK (goneO s.m.gone) j) C)) C)).fp gg := ⟨rmI s.Bm (s.g (goneL s.m.gone (whitesF (thereK (goneO s.m.gone) j) C)) C).m, by simp [sdR, SdS.g], ⟨rowI 4 1 (s.g (goneL s.m.gone (whitesF (thereK (goneO s.m.gone) j) C)) C).m.Ag (s.g (goneL s.m.gone (whitesF (thereK (goneO s.m.gone) j) C)) C).m.gone.length (s.g (goneL s.m.gone (whitesF (thereK (goneO s.m.gone) j) C)) C).m.cg (bools (s.g (goneL s.m.gone (whitesF (thereK (goneO s.m.gone) j) C)) C).m.gone), by simp [rmL], by show (Value.slice _ _ _).ownBlock = some gg; rw [HGG.out]; rfl⟩⟩
                have n20 : gO ≠ gg := fun e => HS.out.other (a := 1) (b := 0) rfl rfl (by omega) gO rfl (e ▸ hfpg)
                have n21 : gg ≠ gO := fun e => n20 e.symm
                have HS6 := hide (show Sep No w (wr.setCell ⟨gg, j, none⟩ (.bool true)) [sdI Bs { (s.g (goneL s.m.gone (whitesF (thereK (goneO s.m.gone) j) C)) C) with m := (s.g (goneL s.m.gone (whitesF (thereK (goneO s.m.gone) j) C)) C).m.setG j }, blkI gO 94 #[.slice A k c, .slice none 0 0, .slice A4 (gl ++ (whitesF (thereK (goneO s.m.gone) j) C)).length c4], rowI 41 3 A k c (outsV (rtRun q (ds.take k) (rt0 σ0)).1), rowI 3 1 A4 (gl ++ (whitesF (thereK (goneO s.m.gone) j) C)).length c4 (ints (gl ++ (whitesF (thereK (goneO s.m.gone) j) C))), blkI g 27 #[.slice AO nO cO, .slice AR nR cR], blkI (g + 1) 94 #[.slice none 0 0, .slice none 0 0, .slice none 0 0], blkI gd 39 #[.int .i64 9, .int .i64 dto, .int .i64 dfr, .int .i64 dat, .int .i64 dn], blkI (gd + 1) 41 #[.int .i64 0, .bool false, .int .i64 0]] from sd_call HS.out (rm_setG (sd_mem (HS.out.get 0 rfl)) HGG.out))
                obtain ⟨u1, u2, u3, _⟩ := HS.out.rules 1 (g := gO) (t := 94) rfl
                have u5 := (u1 2).trans (show _ = some (.slice A4 (gl ++ whitesF (thereK (goneO s.m.gone) j) C).length c4) from rfl)
                obtain ⟨gn, hgn5⟩ : ∃ x, (gl ++ whitesF (thereK (goneO s.m.gone) j) C).length = x := ⟨_, rfl⟩
                have HGN5 := hide hgn5
                have hgn9 : gn ≤ 200000 := by rw [← hgn5, List.length_append]; omega
                rw [hgn5] at u5 HS6
                clear hw2 HW hfpg u1 hgn5
                go_wp2_with (first
                  | (at_builtin
                     refine wpList_app1 (cs := #[.int .i64 j]) rfl (.tmp 137) (.tmp 139) 35 rfl (F := No) (W := w) sInt (items := _ :: _ :: _ :: _ :: _) HS6.out 3 (n := gn) rfl rfl rfl (by simp) rfl rfl (by omega) ?_
                     intro A7 c7 w7 hS7 hC7
                     obtain ⟨z1, z2, z3, _⟩ := hS7.rules 1 (g := gO) (t := 94) rfl))
                have HS8 := hide (hS7.set_ 1 (g := gO) (t := 94) rfl 2 (.slice A7 (gn + 1) c7))
                clear hS7 hC7 HS6 z1
                go_roundw
                case rel => exact ⟨j + 1, A7, c7, by omega, by go_num, by
                  rw [HW2.out, goneL_snoc, Int.toNat_natCast, ← List.append_assoc]
                  rw [List.length_append, List.length_singleton, HGN5.out, show ints (gl ++ whitesF (thereK (goneO s.m.gone) j) C ++ [(j : Int)]) = ints (gl ++ whitesF (thereK (goneO s.m.gone) j) C) ++ [.int .i64 j] from by simp [ints]]
                  exact HS8.out⟩
                case measure => simp [intOf]; omega
              · have hw2 : whitesF (thereK (goneO s.m.gone) (j + 1)) C = whitesF (thereK (goneO s.m.gone) j) C := by rw [HW.out, if_neg (by simp), if_neg hy0, List.append_nil]
                have HW2 := hide hw2
                have y1 : (y == 0) = false := by simp [hy0]
                clear hw2 HW hy0
                go_wp2_with fail
                go_roundw
                case rel => exact ⟨j + 1, A4, c4, by omega, by go_num, by rw [HW2.out]; exact HS.out⟩
                case measure => simp [intOf]; omega
          · obtain rfl : j = N := by omega
            have CB := rbegin_any (hS.get 0 rfl) (by rw [hcN]; omega) (show s.m.regs.length = 8 from HR8.out) (fun v hv h1 => by obtain ⟨z, hz, _⟩ := HVR.out v hv h1; omega)
            rw [hcN] at CB
            have HCB := hide CB
            have hrs := HRS.out
            rw [HN.out] at hrs
            have HRS := hide hrs
            have HS := hide hS
            clear CB hS hrs hcN
            go_wp2_with fail
            refine HCB.out.mono ?_
            rintro e w8 ⟨⟨u, rfl⟩, hP8⟩
            have hS8 := HS.out.call 0 rfl hP8
            clear hP8 HCB HS b0 b2 b3
            obtain ⟨b0, -, -, b3, -⟩ := sd_cells (hS8.get 0 rfl)
            obtain ⟨a1, a2, a3, _⟩ := hS8.rules 6 (g := gd) (t := 39) rfl
            have g0 := (a1 0).trans (show _ = some (.int .i64 9) from rfl)
            obtain ⟨u1, u2, u3, _⟩ := hS8.rules 1 (g := gO) (t := 94) rfl
            have u5 := (u1 0).trans (show _ = some (.slice A k c) from rfl)
            obtain ⟨x1, x2, x3, _⟩ := hS8.rules 7 (g := gd + 1) (t := 41) rfl
            have x5 := (x1 0).trans (show _ = some (.int .i64 0) from rfl)
            have x6 := (x1 1).trans (show _ = some (.bool false) from rfl)
            have x7 := (x1 2).trans (show _ = some (.int .i64 0) from rfl)
            clear a1 u1 x1
            have HS5 := hide hS8
            clear hS8
            go_wp2_with (first
              | (at_builtin
                 refine wpList_app1 (cs := #[.int .i64 0, .bool false, .int .i64 0]) rfl (.tmp 193) (.tmp 195) 23 rfl (F := No) (W := w) sOut (items := _ :: _ :: _ :: _ :: _) HS5.out 2 (n := k) rfl rfl rfl (by simp) rfl rfl (by omega) ?_
                 intro A6 c6 w6 hS6 hC6
                 obtain ⟨u1, u2, u3, _⟩ := hS6.rules 1 (g := gO) (t := 94) rfl))
            have hS7 := hS6.set_ 1 (g := gO) (t := 94) rfl 0 (.slice A6 (k + 1) c6)
            have HS7 := hide (hS7.sub (l := [_, _, _, _, _, _]) (List.sublist_append_left [_, _, _, _, _, _] [_, _]))
            clear hS6 hC6 hS7 u1 HS5
            go_roundw
            case rel => exact ⟨k + 1, A6, c6, (s.g (goneL s.m.gone (whitesF (thereK (goneO s.m.gone) j) C)) C).col (beginC j s.m.regs), A4, c4, (gl ++ whitesF (thereK (goneO s.m.gone) j) C), by omega, by go_num, hide ⟨by rw [HRS.out], HI.out.2⟩, by
              rw [HRS.out]
              dsimp only
              rw [outsV_app, outsV_one]
              exact HS7.out⟩
            case measure => simp [intOf]; omega
      · have hgx : ∃ i : Nat, xg = (i : Int) := by
          obtain ⟨i, a, e, hp⟩ := greyF_at (l := goneO s.m.gone) (cols := C) (by rw [show thereL (goneO s.m.gone) = thereG s.m.gone from rfl, HXG.out]; exact hg)
          exact ⟨i, by rw [← HXG.out]; exact e⟩
        have hst : rtStep q ⟨9, dto, dfr, dat, dn⟩ (s.t gl) = (⟨8, false, 0⟩, (s.col C).t gl) := by
          unfold rtStep
          rw [if_neg (show ¬ (9 : Int) = 8 by decide), if_pos rfl]
          have h1 : shadeL (s.t gl).cols (s.t gl).σ.regs = C := HC.out
          rw [h1, show thereG (s.t gl).gone = thereG s.m.gone from rfl, if_pos (by rw [HXG.out]; exact hg)]
          rfl
        obtain ⟨i, rfl⟩ := hgx
        have hrs := HRS0.out
        rw [hst] at hrs
        have HRS := hide hrs
        have HS5 := hide (hS5.set_ 7 (g := gd + 1) (t := 41) rfl 0 (.int .i64 8))
        have t3 : decide ((0 : Int) ≤ (i : Int)) = true := by simp
        clear hst hrs hS5 hb5 HS CG hxg hg
        go_wp2_with (first
          | (at_builtin
             refine wpList_app1 (cs := #[.int .i64 8, .bool false, .int .i64 0]) rfl (.tmp 193) (.tmp 195) 23 rfl (F := No) (W := w) sOut (items := _ :: _ :: _ :: _ :: _) HS5.out 2 (n := k) rfl rfl rfl (by simp) rfl rfl (by omega) ?_
             intro A6 c6 w6 hS6 hC6
             obtain ⟨u1, u2, u3, _⟩ := hS6.rules 1 (g := gO) (t := 94) rfl))
        have hS7 := hS6.set_ 1 (g := gO) (t := 94) rfl 0 (.slice A6 (k + 1) c6)
        have HS7 := hide (hS7.sub (l := [_, _, _, _, _, _]) (List.sublist_append_left [_, _, _, _, _, _] [_, _]))
        clear hS6 hC6 hS7 u1 HS5
        go_roundw
        case rel => exact ⟨k + 1, A6, c6, s.col C, A3, c3, gl, by omega, by go_num, hide ⟨by rw [HRS.out], HI.out.2⟩, by
          rw [HRS.out]
          dsimp only
          rw [outsV_app, outsV_one]
          exact HS7.out⟩
        case measure => simp [intOf]; omega
end Go.Proofs.Ytjphckfbbiehdaa

namespace Go.Proofs.Ytjphckfbbiehdaa
open Go.RowKit

set_option maxRecDepth 1000000 in
set_option maxHeartbeats 64000000 in
theorem rt_caseWork {w wr : World} {AO AR Ad : Option Addr} {nO cO nR cR nd cd q g Bs gO : Nat} {ds : List DoV} {σ0 : MSt} {k c c3 : Nat} {A A3 : Option Addr} {s : SdS} {gl : List Int} {u10 u11 u13 u14 u16 u17 u34 u35 u36 u37 u38 u39 u40 u41 u42 u43 u44 u45 u46 u47 u48 u49 u50 u51 u52 u53 u54 u55 u56 u57 u58 u59 u60 u61 u62 u63 u64 u65 u66 u67 u68 u69 u70 u71 u72 u73 u74 u75 u76 u77 u78 u79 u80 u81 u82 u83 u84 u85 u86 u87 u88 u89 u90 u91 u92 u93 u94 u95 u96 u97 u98 u99 u100 u101 u102 u103 u104 u105 u106 u107 u108 u109 u110 u111 u112 u113 u114 u115 u116 u117 u118 u119 u120 u121 u122 u123 u124 u125 u126 u127 u128 u129 u130 u131 u132 u133 u134 u135 u136 u137 u138 u139 u140 u141 u142 u143 u144 u145 u146 u147 u148 u149 u150 u151 u152 u153 u154 u155 u156 u157 u158 u159 u160 u161 u162 u163 u164 u165 u166 u167 u168 u169 u170 u171 u172 u173 u174 u175 u176 u177 u178 u179 u180 u181 u182 u183 u184 u185 u186 u187 u188 u189 u190 u191 u192 u193 u194 u195 u196 u197 u198 u19 u20 u21 u22 u23 u24 u25 u26 u27 u : Value} {Q0 : Exit → Act → World → Prop} (hg : w.heap.size = g) (hnd : nd ≤ 100) (HDL : Hid (ds.length = nd)) (HQ : Hid (q = 1 ∨ q = 2 ∨ q = 3)) (hD : Rd w (fun _ => True) 5 Ad nd (dosV ds))
    (HAT : Hid (∀ k, k ≤ ds.length → RtOk q (rtRun q (ds.take k) (rt0 σ0)).2 ∧ (rtRun q (ds.take k) (rt0 σ0)).2.σ.objs.length ≤ 24 + k ∧ (rtRun q (ds.take k) (rt0 σ0)).1.length = k ∧ (rtRun q (ds.take k) (rt0 σ0)).2.gl.length ≤ k * 200))
    (hk : k ≤ nd) (hlt : k < nd) (HI : Hid (s.t gl = (rtRun q (ds.take k) (rt0 σ0)).2 ∧ s.q = (q : Int)))
    (hS : Sep No w wr [sdI Bs s, blkI gO 94 #[.slice A k c, .slice none 0 0, .slice A3 gl.length c3], rowI 41 3 A k c (outsV (rtRun q (ds.take k) (rt0 σ0)).1), rowI 3 1 A3 gl.length c3 (ints gl), blkI g 27 #[.slice AO nO cO, .slice AR nR cR], blkI (g + 1) 94 #[.slice none 0 0, .slice none 0 0, .slice none 0 0]])
    (hkl : k < ds.length) (hd9 : ds[k].k ≠ 9) (hd8 : ds[k].k = 8) :
    Code.wp Try.prog triBody (Exit.then (fun a' w' => (∃ u10 u11 u13 u14 u16 u17 u33 u34 u35 u36 u37 u38 u39 u40 u41 u42 u43 u44 u45 u46 u47 u48 u49 u50 u51 u52 u53 u54 u55 u56 u57 u58 u59 u60 u61 u62 u63 u64 u65 u66 u67 u68 u69 u70 u71 u72 u73 u74 u75 u76 u77 u78 u79 u80 u81 u82 u83 u84 u85 u86 u87 u88 u89 u90 u91 u92 u93 u94 u95 u96 u97 u98 u99 u100 u101 u102 u103 u104 u105 u106 u107 u108 u109 u110 u111 u112 u113 u114 u115 u116 u117 u118 u119 u120 u121 u122 u123 u124 u125 u126 u127 u128 u129 u130 u131 u132 u133 u134 u135 u136 u137 u138 u139 u140 u141 u142 u143 u144 u145 u146 u147 u148 u149 u150 u151 u152 u153 u154 u155 u156 u157 u158 u159 u160 u161 u162 u163 u164 u165 u166 u167 u168 u169 u170 u171 u172 u173 u174 u175 u176 u177 u178 u179 u180 u181 u182 u183 u184 u185 u186 u187 u188 u189 u190 u191 u192 u193 u194 u195 u196 u197 u198 : Value, (∃ (k : Nat) (A : Option Addr) (c : Nat) (s : SdS) (A3 : Option Addr) (c3 : Nat) (gl : List Int), k ≤ nd ∧ u33 = .int .i64 k ∧ Hid (s.t gl = (rtRun q (ds.take k) (rt0 σ0)).2 ∧ s.q = (q : Int)) ∧
      Sep No w w' [sdI Bs s, blkI gO 94 #[.slice A k c, .slice none 0 0, .slice A3 gl.length c3], rowI 41 3 A k c (outsV (rtRun q (ds.take k) (rt0 σ0)).1), rowI 3 1 A3 gl.length c3 (ints gl), blkI g 27 #[.slice AO nO cO, .slice AR nR cR], blkI (g + 1) 94 #[.slice none 0 0, .slice none 0 0, .slice none 0 0]]) ∧ a' = ⟨#[.agg #[.slice AO nO cO, .slice AR nR cR], .int .i64 q, .slice Ad nd cd, .pointer (some ⟨g, 0, none⟩), undef, undef, .pointer (some ⟨g + 1, 0, none⟩), .pointer (some ⟨Bs, 0, none⟩), .pointer (some ⟨gO, 0, none⟩), undef, u10, u11, undef, u13, u14, undef, u16, u17, undef, u19, u20, u21, u22, u23, u24, u25, u26, u27, .pointer (some ⟨Bs, 0, none⟩), u, .agg #[.slice none 0 0, .slice none 0 0, .slice none 0 0], .slice Ad nd cd, .int .i64 nd, u33, u34, u35, u36, u37, u38, u39, u40, u41, u42, u43, u44, u45, u46, u47, u48, u49, u50, u51, u52, u53, u54, u55, u56, u57, u58, u59, u60, u61, u62, u63, u64, u65, u66, u67, u68, u69, u70, u71, u72, u73, u74, u75, u76, u77, u78, u79, u80, u81, u82, u83, u84, u85, u86, u87, u88, u89, u90, u91, u92, u93, u94, u95, u96, u97, u98, u99, u100, u101, u102, u103, u104, u105, u106, u107, u108, u109, u110, u111, u112, u113, u114, u115, u116, u117, u118, u119, u120, u121, u122, u123, u124, u125, u126, u127, u128, u129, u130, u131, u132, u133, u134, u135, u136, u137, u138, u139, u140, u141, u142, u143, u144, u145, u146, u147, u148, u149, u150, u151, u152, u153, u154, u155, u156, u157, u158, u159, u160, u161, u162, u163, u164, u165, u166, u167, u168, u169, u170, u171, u172, u173, u174, u175, u176, u177, u178, u179, u180, u181, u182, u183, u184, u185, u186, u187, u188, u189, u190, u191, u192, u193, u194, u195, u196, u197, u198, undef, undef, undef, undef, undef, undef, undef, undef, undef, undef, undef, undef, undef, undef, undef, undef, undef, undef, undef, undef, undef, undef, undef, undef, undef, undef, undef, undef, undef, undef, undef, undef, undef, undef, undef], []⟩) ∧ nd - (intOf (a'.tmps.getD 33 undef)).toNat < nd - (intOf (#[.agg #[.slice AO nO cO, .slice AR nR cR], .int .i64 q, .slice Ad nd cd, .pointer (some ⟨g, 0, none⟩), undef, undef, .pointer (some ⟨g + 1, 0, none⟩), .pointer (some ⟨Bs, 0, none⟩), .pointer (some ⟨gO, 0, none⟩), undef, u10, u11, undef, u13, u14, undef, u16, u17, undef, u19, u20, u21, u22, u23, u24, u25, u26, u27, .pointer (some ⟨Bs, 0, none⟩), u, .agg #[.slice none 0 0, .slice none 0 0, .slice none 0 0], .slice Ad nd cd, .int .i64 nd, .int .i64 k, u34, u35, u36, u37, u38, u39, u40, u41, u42, u43, u44, u45, u46, u47, u48, u49, u50, u51, u52, u53, u54, u55, u56, u57, u58, u59, u60, u61, u62, u63, u64, u65, u66, u67, u68, u69, u70, u71, u72, u73, u74, u75, u76, u77, u78, u79, u80, u81, u82, u83, u84, u85, u86, u87, u88, u89, u90, u91, u92, u93, u94, u95, u96, u97, u98, u99, u100, u101, u102, u103, u104, u105, u106, u107, u108, u109, u110, u111, u112, u113, u114, u115, u116, u117, u118, u119, u120, u121, u122, u123, u124, u125, u126, u127, u128, u129, u130, u131, u132, u133, u134, u135, u136, u137, u138, u139, u140, u141, u142, u143, u144, u145, u146, u147, u148, u149, u150, u151, u152, u153, u154, u155, u156, u157, u158, u159, u160, u161, u162, u163, u164, u165, u166, u167, u168, u169, u170, u171, u172, u173, u174, u175, u176, u177, u178, u179, u180, u181, u182, u183, u184, u185, u186, u187, u188, u189, u190, u191, u192, u193, u194, u195, u196, u197, u198, undef, undef, undef, undef, undef, undef, undef, undef, undef, undef, undef, undef, undef, undef, undef, undef, undef, undef, undef, undef, undef, undef, undef, undef, undef, undef, undef, undef, undef, undef, undef, undef, undef, undef, undef].getD 33 undef)).toNat) Q0) ⟨#[.agg #[.slice AO nO cO, .slice AR nR cR], .int .i64 q, .slice Ad nd cd, .pointer (some ⟨g, 0, none⟩), undef, undef, .pointer (some ⟨g + 1, 0, none⟩), .pointer (some ⟨Bs, 0, none⟩), .pointer (some ⟨gO, 0, none⟩), undef, u10, u11, undef, u13, u14, undef, u16, u17, undef, u19, u20, u21, u22, u23, u24, u25, u26, u27, .pointer (some ⟨Bs, 0, none⟩), u, .agg #[.slice none 0 0, .slice none 0 0, .slice none 0 0], .slice Ad nd cd, .int .i64 nd, .int .i64 k, u34, u35, u36, u37, u38, u39, u40, u41, u42, u43, u44, u45, u46, u47, u48, u49, u50, u51, u52, u53, u54, u55, u56, u57, u58, u59, u60, u61, u62, u63, u64, u65, u66, u67, u68, u69, u70, u71, u72, u73, u74, u75, u76, u77, u78, u79, u80, u81, u82, u83, u84, u85, u86, u87, u88, u89, u90, u91, u92, u93, u94, u95, u96, u97, u98, u99, u100, u101, u102, u103, u104, u105, u106, u107, u108, u109, u110, u111, u112, u113, u114, u115, u116, u117, u118, u119, u120, u121, u122, u123, u124, u125, u126, u127, u128, u129, u130, u131, u132, u133, u134, u135, u136, u137, u138, u139, u140, u141, u142, u143, u144, u145, u146, u147, u148, u149, u150, u151, u152, u153, u154, u155, u156, u157, u158, u159, u160, u161, u162, u163, u164, u165, u166, u167, u168, u169, u170, u171, u172, u173, u174, u175, u176, u177, u178, u179, u180, u181, u182, u183, u184, u185, u186, u187, u188, u189, u190, u191, u192, u193, u194, u195, u196, u197, u198, undef, undef, undef, undef, undef, undef, undef, undef, undef, undef, undef, undef, undef, undef, undef, undef, undef, undef, undef, undef, undef, undef, undef, undef, undef, undef, undef, undef, undef, undef, undef, undef, undef, undef, undef], []⟩ wr := by
  conv => arg 2; whnf
  obtain ⟨hrt, hol, _, hgl⟩ := HAT.out k (by have := HDL.out; omega)
  rw [← HI.out.1] at hrt hol hgl
  have hgl2 : gl.length ≤ 100000 := by have h1 : (s.t gl).gl.length = gl.length := rfl; omega
  obtain ⟨hok, hcl, hgc2⟩ := sd_ok hrt (by omega)
  have HOK := hide hok
  have HCL := hide hcl
  have HGC := hide hgc2
  have HRT := hide hrt
  have hcn : s.cols.length ≤ 500 := by have := hok.n; omega
  have HCN := hide hcn
  have hon : s.m.obs.length ≤ 500 := hok.n
  have hr8 : s.m.regs.length = 8 := hok.m.r8
  have HR8 := hide hr8
  have HVR := hide (fun v (hv : v ∈ s.m.regs) => show vin s.cols.length v from fun h1 => by
    obtain ⟨h2, h3⟩ := hok.m.vr v hv h1
    obtain ⟨z, hz⟩ := int_nat h2
    have hps : (absR s.m).objs.length = s.m.obs.length := by simp [absR]
    exact ⟨z, hz, by omega⟩)
  have HVO := hide (fun (i : Nat) (hi : i < s.m.obs.length) v (hv : v ∈ s.m.obs[i].fields) => show vin s.cols.length v from fun h1 => by
    obtain ⟨h2, h3⟩ := hok.m.vo _ (List.mem_map.2 ⟨s.m.obs[i], List.getElem_mem hi, rfl⟩) v hv h1
    obtain ⟨z, hz⟩ := int_nat h2
    have hps : (absR s.m).objs.length = s.m.obs.length := by simp [absR]
    exact ⟨z, hz, by omega⟩)
  clear hrt hok hcl hgc2 hol hgl hr8
  obtain ⟨v0, v1, v2, v3, v4⟩ := dosV_at ds k hkl
  obtain ⟨ad, hA, _, had, hc, hd⟩ := (hD.below hS.below_).atN hlt
  have e0 := hc _ v0
  have e1 := hd 0 _ v1
  have e2 := hd 1 _ v2
  have e3 := hd 2 _ v3
  have e4 := hd 3 _ v4
  have hrs := rtRun_at q ds (rt0 σ0) k hkl
  rw [← HI.out.1] at hrs
  obtain ⟨d, hd'⟩ : ∃ d, ds[k] = d := ⟨_, rfl⟩
  rw [hd'] at e0 e1 e2 e3 e4 hrs
  obtain ⟨gd, hgd⟩ : ∃ x, wr.heap.size = x := ⟨_, rfl⟩
  have hS2 := (hS.blkAt 39 d.cells hgd).blkAt 41 #[.int .i64 0, .bool false, .int .i64 0] (g := gd + 1) (by simp [hgd])
  have hgO := hS.hi 1 rfl gO rfl
  have n1 : gO ≠ gd := by omega
  have n2 : gO ≠ gd + 1 := by omega
  have n3 : gd ≠ gO := by omega
  have n4 : gd + 1 ≠ gO := by omega
  have n5 : gd + 1 ≠ gd := by omega
  have n6 : gd ≠ gd + 1 := by omega
  have hBs := hS.hi 0 rfl Bs ⟨_, List.mem_cons_self .., rfl⟩
  have n7 : Bs ≠ gd := by omega
  have n8 : Bs ≠ gd + 1 := by omega
  have n9 : gd ≠ Bs := by omega
  have n10 : gd + 1 ≠ Bs := by omega
  have n16 : gO ≠ Bs := fun e => hS.other (a := 1) (b := 0) rfl rfl (by omega) gO rfl ⟨blkI Bs 218 (sdC s), by simp [sdR], e⟩
  have n17 : Bs ≠ gO := fun e => n16 e.symm
  subst hA
  have h9 : ¬ d.k = 9 := by rw [← hd']; exact hd9
  have h8 : d.k = 8 := by rw [← hd']; exact hd8
  clear hd8 hd9
  obtain ⟨dk, dto, dfr, dat, dn⟩ := d
  unfold DoV.cells at hS2
  dsimp only at hS2 h8 e0 e1 e2 e3 e4
  subst h8
  have CG := hide (rgrey_any (hS2.get 0 rfl) (by omega) HGC.out)
  have HS2 := hide hS2
  have HRS := hide hrs
  clear h9 hrs hS2 hS hc hd v0 v1 v2 v3 v4 hd'
  go_wp2_with fail
  refine CG.out.mono ?_
  rintro e w4 ⟨rfl, hb4⟩
  have hS4 := HS2.out.below hb4
  obtain ⟨xg, hxg⟩ : ∃ x, greyF (thereG s.m.gone) s.cols = x := ⟨_, rfl⟩
  have HXG := hide hxg
  rw [hxg]
  by_cases hg : xg = -1
  · subst hg
    have hrs := HRS.out
    have hst : rtStep q ⟨8, dto, dfr, dat, dn⟩ (s.t gl) = (⟨7, false, 0⟩, s.t gl) := by
      unfold rtStep
      rw [if_pos rfl, show greyF (thereG (s.t gl).gone) (s.t gl).cols = -1 from HXG.out, if_pos rfl]
    rw [hst] at hrs
    clear hst
    have HRS := hide hrs
    obtain ⟨a1, a2, a3, _⟩ := hS4.rules 6 (g := gd) (t := 39) rfl
    have a5 := (a1 0).trans (show _ = some (.int .i64 8) from rfl)
    obtain ⟨u1, u2, u3, _⟩ := hS4.rules 1 (g := gO) (t := 94) rfl
    have u5 := (u1 0).trans (show _ = some (.slice A k c) from rfl)
    obtain ⟨x1, x2, x3, _⟩ := hS4.rules 7 (g := gd + 1) (t := 41) rfl
    have x5 := (x1 0).trans (show _ = some (.int .i64 0) from rfl)
    have x6 := (x1 1).trans (show _ = some (.bool false) from rfl)
    have x7 := (x1 2).trans (show _ = some (.int .i64 0) from rfl)
    clear u1 x1
    have HS5 := hide (hS4.set_ 7 (g := gd + 1) (t := 41) rfl 0 (.int .i64 7))
    clear hS4 hb4 HS2 CG hrs a1 hxg
    go_wp2_with (first
      | (at_builtin
         refine wpList_app1 (cs := #[.int .i64 7, .bool false, .int .i64 0]) rfl (.tmp 193) (.tmp 195) 23 rfl (F := No) (W := w) sOut (items := _ :: _ :: _ :: _ :: _) HS5.out 2 (n := k) rfl rfl rfl (by simp) rfl rfl (by omega) ?_
         intro A6 c6 w6 hS6 hC6
         obtain ⟨u1, u2, u3, _⟩ := hS6.rules 1 (g := gO) (t := 94) rfl))
    have hS7 := hS6.set_ 1 (g := gO) (t := 94) rfl 0 (.slice A6 (k + 1) c6)
    have HS7 := hide (hS7.sub (l := [_, _, _, _, _, _]) (List.sublist_append_left [_, _, _, _, _, _] [_, _]))
    clear hS6 hC6 hS7 u1 HS5
    go_roundw
    case rel => exact ⟨k + 1, A6, c6, s, A3, c3, gl, by omega, by go_num, hide ⟨by rw [HRS.out], HI.out.2⟩, by
      rw [HRS.out]
      dsimp only
      rw [outsV_app, outsV_one]
      exact HS7.out⟩
    case measure => simp [intOf]; omega
  · have hgx : ∃ (i : Nat) (hi : i < s.m.gone.length), xg = (i : Int) ∧ s.m.gone[i] = false := by
      obtain ⟨i, a, e, hp⟩ := greyF_at (l := goneO s.m.gone) (cols := s.cols) (by rw [show thereL (goneO s.m.gone) = thereG s.m.gone from rfl, hxg]; exact hg)
      have e2 : xg = (i : Int) := by rw [← hxg]; exact e
      obtain ⟨hi, hie⟩ := List.getElem?_eq_some_iff.1 hp
      have hi2 : i < s.m.gone.length := by rw [goneO_len] at hi; exact hi
      refine ⟨i, hi2, e2, ?_⟩
      have h1 := goneO_at s.m.gone hi2
      rw [List.getD_eq_getElem?_getD, hp] at h1
      cases hgg : s.m.gone[i]
      · rfl
      · rw [hgg] at h1; cases h1
    obtain ⟨i, hi, rfl, hgi⟩ := hgx
    have hio : i < s.m.obs.length := by have h1 := HGC.out; have h2 := HCL.out; omega
    have hob : obA (absR s.m).objs (i : Int) = s.m.obs[i].fields := by
      unfold obA absR
      rw [Int.toNat_natCast, List.getD_eq_getElem?_getD]; simp [List.getElem?_eq_getElem hio]
    have hst : rtStep q ⟨8, dto, dfr, dat, dn⟩ (s.t gl) = (⟨0, false, 0⟩, (s.col ((shadeL s.cols s.m.obs[i].fields).set i 2)).t gl) := by
      unfold rtStep
      rw [if_pos rfl, show greyF (thereG (s.t gl).gone) (s.t gl).cols = (i : Int) from HXG.out, if_neg (by omega), show obA (s.t gl).σ.objs (i : Int) = s.m.obs[i].fields from hob, Int.toNat_natCast]
      rfl
    have hrs := HRS.out
    rw [hst] at hrs
    have HRS := hide hrs
    have hln := rm_len (sd_mem (hS4.get 0 rfl)) (List.getElem_mem hio)
    have hl4 := HOK.out.m.f4 s.m.obs[i].fields (List.mem_map.2 ⟨s.m.obs[i], List.getElem_mem hio, rfl⟩)
    obtain ⟨a1, a2, a3, _⟩ := hS4.rules 6 (g := gd) (t := 39) rfl
    have a5 := (a1 0).trans (show _ = some (.int .i64 8) from rfl)
    obtain ⟨b0, -, -, b3, -⟩ := sd_cells (hS4.get 0 rfl)
    obtain ⟨-, m1, -, m3, -⟩ := rm_mem (sd_mem (hS4.get 0 rfl))
    obtain ⟨ga, hga, o1, o2⟩ := rm_ob (sd_mem (hS4.get 0 rfl)) hio
    rw [hga] at m1
    obtain ⟨NO, hNO⟩ : ∃ x, s.m.obs.length = x := ⟨_, rfl⟩
    have HNO := hide hNO
    rw [hNO] at m1 hon
    have hiN : i < NO := by rw [← hNO]; exact hio
    obtain ⟨oA, hoA⟩ : ∃ x, s.m.obs[i].A = x := ⟨_, rfl⟩
    obtain ⟨oN, hoN⟩ : ∃ x, s.m.obs[i].n = x := ⟨_, rfl⟩
    obtain ⟨oC, hoC⟩ : ∃ x, s.m.obs[i].c = x := ⟨_, rfl⟩
    replace o1 : w4.cell? ⟨ga, i, none⟩ = some (.slice oA oN oC) := by rw [← hoA, ← hoN, ← hoC]; exact o1
    have HOA := hide hoA
    have HON := hide hoN
    have hn4 : oN ≤ 4 := by omega
    have HFL := hide (show s.m.obs[i].fields.length = oN by omega)
    obtain ⟨Bm1, hBm1⟩ : ∃ x, s.Bm = x := ⟨_, rfl⟩
    rw [hBm1] at b0 m1 m3
    have t3 : decide ((i : Int) < 0) = false := by simp
    have t4 : decide ((NO : Int) ≤ (i : Int)) = false := by simp; omega
    have HS4 := hide hS4
    clear hS4 hb4 HS2 CG hrs hst hxg hg hgi hob hln hl4 a1 hga hNO hoA hoN hoC hBm1 hi
    go_wp2_with fail
    go_loopw [77] (fun i2 wr => ∃ j : Nat, j ≤ oN ∧ i2 = .int .i64 j ∧ Sep No w wr [sdI Bs (s.col (shadeL s.cols (s.m.obs[i].fields.take j))), blkI gO 94 #[.slice A k c, .slice none 0 0, .slice A3 gl.length c3], rowI 41 3 A k c (outsV (rtRun q (ds.take k) (rt0 σ0)).1), rowI 3 1 A3 gl.length c3 (ints gl), blkI g 27 #[.slice AO nO cO, .slice AR nR cR], blkI (g + 1) 94 #[.slice none 0 0, .slice none 0 0, .slice none 0 0], blkI gd 39 #[.int .i64 8, .int .i64 dto, .int .i64 dfr, .int .i64 dat, .int .i64 dn], blkI (gd + 1) 41 #[.int .i64 0, .bool false, .int .i64 0]]) (fun i2 _ => oN - (intOf i2).toNat)
    case atStart => exact ⟨0, by omega, rfl, HS4.out⟩
    case round =>
      clear HS4 b0 b3 m1 m3 o1 o2 a5 a2 a3
      obtain ⟨j, hj, rfl, hS⟩ := hrel
      by_cases hlt2 : j < oN
      · have hjl : j < s.m.obs[i].fields.length := by rw [HFL.out]; exact hlt2
        obtain ⟨g2, hA2, d1, d2, _, _, d5⟩ := rm_field (Bm := s.Bm) (s := s.m) (sd_mem (s := s.col (shadeL s.cols (s.m.obs[i].fields.take j))) (hS.get 0 rfl)) hio hjl
        rw [HOA.out] at hA2
        have hT := List.take_succ_eq_append_getElem hjl
        have hvv := HVO.out i hio s.m.obs[i].fields[j] (List.getElem_mem hjl)
        obtain ⟨v, hv⟩ : ∃ v, s.m.obs[i].fields[j] = v := ⟨_, rfl⟩
        rw [hv] at d1 d2 hT hvv
        have HT := hide (show shadeL s.cols (s.m.obs[i].fields.take (j + 1)) = shadeC (shadeL s.cols (s.m.obs[i].fields.take j)) v from by rw [hT, shadeL_snoc])
        have HLK := hide (shadeL_len s.cols (s.m.obs[i].fields.take j))
        obtain ⟨CK, hCK⟩ : ∃ c, shadeL s.cols (s.m.obs[i].fields.take j) = c := ⟨_, rfl⟩
        rw [hCK] at HLK HT hS
        have C := hide (fun (X : World) (h : (sdI Bs (s.col CK)).P X) => rshade_any h (by show CK.length ≤ 1000; rw [HLK.out]; omega) v (by show vin CK.length v; rw [HLK.out]; exact hvv))
        have HS := hide hS
        obtain ⟨bv1, mv⟩ := v
        dsimp only at C d1 d2 HT
        subst hA2
        clear hT hvv hv hCK hS hjl
        go_wp2_with fail
        refine (C.out _ ((HS.out.alloc (.cells #[.bool bv1, .int .i64 mv] 107)).get 0 rfl)).mono ?_
        rintro e w5 ⟨⟨u, rfl⟩, hP5⟩
        have HS5 := hide ((HS.out.alloc (.cells #[.bool bv1, .int .i64 mv] 107)).call 0 rfl hP5)
        clear hP5 C HS
        go_wp2_with fail
        go_roundw
        case rel => exact ⟨j + 1, by omega, by go_num, by rw [HT.out]; exact HS5.out⟩
        case measure => simp [intOf]; omega
      · obtain rfl : j = oN := by omega
        have hall : s.m.obs[i].fields.take j = s.m.obs[i].fields := List.take_of_length_le (by have := HFL.out; omega)
        rw [hall] at hS
        have HLK := hide (shadeL_len s.cols s.m.obs[i].fields)
        obtain ⟨CK, hCK⟩ : ∃ c, shadeL s.cols s.m.obs[i].fields = c := ⟨_, rfl⟩
        have hrs0 := HRS.out
        rw [hCK] at HLK hS
        have hrs : rtRun q (ds.take (k + 1)) (rt0 σ0) = ((rtRun q (ds.take k) (rt0 σ0)).1 ++ [(⟨0, false, 0⟩ : OutV)], (s.col (CK.set i 2)).t gl) := by rw [← hCK]; exact hrs0
        have HRS := hide hrs
        clear hrs0
        have hic : i < (s.col CK).cols.length := by show i < CK.length; rw [HLK.out]; have h1 := HCL.out; have h2 := hio; omega
        obtain ⟨gc2, hAc, c0, c1, c2, c3', c4, n11⟩ := sd_cell (hS.get 0 rfl) hic
        have hgcx := hS.other (a := 0) (b := 7) rfl rfl (by omega)
        have hgcy := hS.other (a := 0) (b := 1) rfl rfl (by omega)
        have hgcf : (sdI Bs (s.col CK)).fp gc2 := ⟨rowI 3 1 (s.col CK).Ac (s.col CK).cols.length (s.col CK).cc (ints (s.col CK).cols), by simp [sdR], by show (Value.slice (s.col CK).Ac (s.col CK).cols.length (s.col CK).cc).ownBlock = some gc2; rw [hAc]; rfl⟩
        have n12 : gc2 ≠ gd + 1 := hgcx gc2 hgcf
        have n13 : gc2 ≠ gO := hgcy gc2 hgcf
        have n14 : gd + 1 ≠ gc2 := fun e => n12 e.symm
        have n15 : gO ≠ gc2 := fun e => n13 e.symm
        obtain ⟨CN2, hCN2⟩ : ∃ x, (s.col CK).cols.length = x := ⟨_, rfl⟩
        rw [hCN2] at c0 hic
        have t5 : decide ((CN2 : Int) ≤ (i : Int)) = false := by simp; omega
        obtain ⟨u1, u2, u3, _⟩ := hS.rules 1 (g := gO) (t := 94) rfl
        have u5 := (u1 0).trans (show _ = some (.slice A k c) from rfl)
        obtain ⟨x1, x2, x3, _⟩ := hS.rules 7 (g := gd + 1) (t := 41) rfl
        have x5 := (x1 0).trans (show _ = some (.int .i64 0) from rfl)
        have x6 := (x1 1).trans (show _ = some (.bool false) from rfl)
        have x7 := (x1 2).trans (show _ = some (.int .i64 0) from rfl)
        clear u1 x1
        have HST := hide (show Sep No w (wr.setCell ⟨gc2, i, none⟩ (.int .i64 2)) [sdI Bs (s.col (CK.set i 2)), blkI gO 94 #[.slice A k c, .slice none 0 0, .slice A3 gl.length c3], rowI 41 3 A k c (outsV (rtRun q (ds.take k) (rt0 σ0)).1), rowI 3 1 A3 gl.length c3 (ints gl), blkI g 27 #[.slice AO nO cO, .slice AR nR cR], blkI (g + 1) 94 #[.slice none 0 0, .slice none 0 0, .slice none 0 0], blkI gd 39 #[.int .i64 8, .int .i64 dto, .int .i64 dfr, .int .i64 dat, .int .i64 dn], blkI (gd + 1) 41 #[.int .i64 0, .bool false, .int .i64 0]] from by
          have h1 := hS.call 0 rfl (sd_store (Sep.start (hS.get 0 rfl)) (z := i) hAc 2)
          exact h1)
        have HS5 := HST
        clear hall hS hAc hgcx hgcy hgcf hCN2 hCK hrs HST
        go_wp2_with (first
          | (at_builtin
             refine wpList_app1 (cs := #[.int .i64 0, .bool false, .int .i64 0]) rfl (.tmp 193) (.tmp 195) 23 rfl (F := No) (W := w) sOut (items := _ :: _ :: _ :: _ :: _) HS5.out 2 (n := k) rfl rfl rfl (by simp) rfl rfl (by omega) ?_
             intro A6 c6 w6 hS6 hC6
             obtain ⟨u1, u2, u3, _⟩ := hS6.rules 1 (g := gO) (t := 94) rfl))
        have hS7 := hS6.set_ 1 (g := gO) (t := 94) rfl 0 (.slice A6 (k + 1) c6)
        have HS7 := hide (hS7.sub (l := [_, _, _, _, _, _]) (List.sublist_append_left [_, _, _, _, _, _] [_, _]))
        clear hS6 hC6 hS7 u1 HS5
        go_roundw
        case rel => exact ⟨k + 1, A6, c6, s.col (CK.set i 2), A3, c3, gl, by omega, by go_num, hide ⟨by rw [HRS.out], HI.out.2⟩, by
          rw [HRS.out]
          dsimp only
          rw [outsV_app, outsV_one]
          exact HS7.out⟩
        case measure => simp [intOf]; omega
end Go.Proofs.Ytjphckfbbiehdaa
