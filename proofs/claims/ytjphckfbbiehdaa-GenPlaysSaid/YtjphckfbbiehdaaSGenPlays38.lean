/- The reference of a memory with young and old objects: the young ones are cleared up. -/
import Derived.Test.YtjphckfbbiehdaaSGenPlays36
import Derived.Test.YtjphckfbbiehdaaSGenPlays4
import Derived.Test.YtjphckfbbiehdaaSGenPlays37
set_option linter.unusedSimpArgs false
set_option linter.unusedVariables false
namespace Go.Proofs.Ytjphckfbbiehdaa
open Go.RowKit
def obE : Ob := ⟨none, 0, 0, []⟩
def obY (t : GaT) (i : Nat) : Ob := if t.a.od i = true then obE else t.s.obs.getD i obE
def obsY (t : GaT) (k : Nat) : List Ob := (List.range k).map (obY t)
theorem obsY_succ (t : GaT) (k : Nat) : obsY t (k + 1) = obsY t k ++ [obY t k] := by unfold obsY; rw [List.range_succ, List.map_append]; rfl
theorem obsY_gY (t : GaT) : (obsY t t.old.length).map Ob.fields = t.a.gY := by
  unfold obsY GrA.gY
  rw [List.map_map]
  refine List.map_congr_left fun i _ => ?_
  show (obY t i).fields = _
  unfold obY
  split
  · rfl
  · unfold obA
    show (t.s.obs.getD i obE).fields = (t.s.obs.map Ob.fields).getD ((i : Int)).toNat []
    rw [Int.toNat_natCast, List.getD_eq_getElem?_getD, List.getD_eq_getElem?_getD, List.getElem?_map]
    cases t.s.obs[i]? <;> rfl
def mkV (t : GaT) (p : Gp) : Val := (obA (absR t.s).objs (p.1 : Int)).getD p.2 (false, 0)
def rtK (t : GaT) (k : Nat) : List Val := t.s.regs ++ (t.mks.take k).map (mkV t)
theorem rtK_succ (t : GaT) {k : Nat} (hk : k < t.mks.length) : rtK t (k + 1) = rtK t k ++ [mkV t t.mks[k]] := by
  unfold rtK
  rw [List.take_succ_eq_append_getElem hk, List.map_append, List.append_assoc]
  rfl
theorem rtK_all (t : GaT) : rtK t t.mks.length = t.a.rt := by unfold rtK GrA.rt; rw [List.take_length]; rfl
/-- What is asked of it. -/
structure GaOk (t : GaT) : Prop where
  ok : ROk t.s
  hl : t.s.gone.length = t.old.length
  n : t.old.length ≤ 400
  mo : ∀ p ∈ t.mks, p.1 < t.s.obs.length ∧ p.2 < (obA (absR t.s).objs (p.1 : Int)).length
  ms : t.mks.Pairwise ltP
  mn : t.mks.length ≤ 200
/-- A register; an object; a field that is remembered. -/
theorem ga_reg {Ba Bm : Nat} {t : GaT} {w : World} (hP : (gaI Ba Bm t).P w) {k : Nat} (hk : k < t.s.regs.length) :
    w.cell? ((⟨t.s.gr, 0, none⟩ : Addr).add (k * 2)) = some (.bool t.s.regs[k].1) ∧ w.cell? ⟨((⟨t.s.gr, 0, none⟩ : Addr).add (k * 2)).block, ((⟨t.s.gr, 0, none⟩ : Addr).add (k * 2)).off + (0 + 1), none⟩ = some (.int .i64 t.s.regs[k].2) ∧ (⟨t.s.gr, 0, none⟩ : Addr).block < w.heap.size := by
  obtain ⟨-, hR⟩ := rm_obsRd (ga_cells hP).2.2.2.2.2.1
  obtain ⟨ad, hA, _, had, hc, hd⟩ := hR.atN hk
  obtain ⟨v0, v1⟩ := vals_at t.s.regs k hk
  injection hA with hA
  subst hA
  exact ⟨hc _ v0, hd 0 _ v1, had⟩
theorem ga_mark {Ba Bm : Nat} {t : GaT} {w : World} (hP : (gaI Ba Bm t).P w) {k : Nat} (hk : k < t.mks.length) :
    ∃ ad, t.Am = some ad ∧ w.cell? (ad.add (k * 2)) = some (.int .i64 (t.mks[k].1 : Int)) ∧ w.cell? ⟨(ad.add (k * 2)).block, (ad.add (k * 2)).off + (0 + 1), none⟩ = some (.int .i64 (t.mks[k].2 : Int)) ∧ ad.block < w.heap.size := by
  have hM : Rd w (fun _ => True) 2 t.Am t.mks.length (gpsV t.mks) := Rd.of_own (D := fun _ => True) (show w.ownsRow 0 174 2 (.slice t.Am t.mks.length t.cm) t.mks.length (gpsV t.mks) from (ga_flat hP).get 2 rfl) (fun _ _ => trivial)
  obtain ⟨ad, hA, _, had, hc, hd⟩ := hM.atN hk
  obtain ⟨v0, v1⟩ := gpsV_at t.mks k hk
  exact ⟨ad, hA, hc _ v0, hd 0 _ v1, had⟩
theorem ga_objs {Ba Bm : Nat} {t : GaT} {w : World} (hP : (gaI Ba Bm t).P w) : w.cell? ⟨Bm, 1, none⟩ = some (.slice t.s.Ao t.s.obs.length t.s.co) ∧ w.cell? ⟨Bm, 0, none⟩ = some (.slice (some ⟨t.s.gr, 0, none⟩) t.s.regs.length t.s.cR) := by
  obtain ⟨m0, m1, -, -, -⟩ := rm_mem (ga_cells hP).2.2.2.2.2.1
  exact ⟨m1, m0⟩
theorem ga_ob {Ba Bm : Nat} {t : GaT} {w : World} (hP : (gaI Ba Bm t).P w) {i : Nat} (hi : i < t.s.obs.length) : ∃ ga, t.s.Ao = some ⟨ga, 0, none⟩ ∧ w.cell? ⟨ga, i, none⟩ = some (.slice t.s.obs[i].A t.s.obs[i].n t.s.obs[i].c) ∧ ga < w.heap.size :=
  rm_ob (ga_cells hP).2.2.2.2.2.1 hi
theorem ga_field {Ba Bm : Nat} {t : GaT} {w : World} (hP : (gaI Ba Bm t).P w) {p : Gp} (h1 : p.1 < t.s.obs.length) (h2 : p.2 < (obA (absR t.s).objs (p.1 : Int)).length) :
    ∃ (ga ga2 : Nat), t.s.Ao = some ⟨ga, 0, none⟩ ∧ (t.s.obs.getD p.1 obE).A = some ⟨ga2, 0, none⟩ ∧ w.cell? ⟨ga, p.1, none⟩ = some (.slice (some ⟨ga2, 0, none⟩) (t.s.obs.getD p.1 obE).n (t.s.obs.getD p.1 obE).c) ∧ p.2 < (t.s.obs.getD p.1 obE).n ∧ w.cell? ⟨ga2, p.2 * 2, none⟩ = some (.bool (mkV t p).1) ∧ w.cell? ⟨ga2, p.2 * 2 + 1, none⟩ = some (.int .i64 (mkV t p).2) ∧ ga < w.heap.size ∧ ga2 < w.heap.size := by
  have e : obA (absR t.s).objs (p.1 : Int) = t.s.obs[p.1].fields := by
    unfold obA absR
    dsimp only
    rw [Int.toNat_natCast, List.getD_eq_getElem?_getD, List.getElem?_map, List.getElem?_eq_getElem h1]
    rfl
  have eg : t.s.obs.getD p.1 obE = t.s.obs[p.1] := by rw [List.getD_eq_getElem?_getD, List.getElem?_eq_getElem h1]; rfl
  rw [e] at h2
  have hm := (ga_cells hP).2.2.2.2.2.1
  obtain ⟨ga, hA, hc, hlt⟩ := rm_ob hm h1
  obtain ⟨g2, hA2, f1, f2, -, -, f5⟩ := rm_field hm h1 h2
  have hn := rm_len hm (List.getElem_mem h1)
  have ev : mkV t p = t.s.obs[p.1].fields[p.2] := by
    unfold mkV
    rw [e, List.getD_eq_getElem?_getD, List.getElem?_eq_getElem h2]
    rfl
  rw [hA2] at hc
  rw [ev, eg]
  exact ⟨ga, g2, hA, hA2, hc, by omega, f1, f2, hlt, f5⟩
theorem obsY_rd {Ba Bm : Nat} {t : GaT} {w : World} (hP : (gaI Ba Bm t).P w) (k : Nat) : ∀ o ∈ obsY t k, Rd w (fun _ => True) 2 o.A o.n (vals o.fields) := by
  obtain ⟨hO, -⟩ := rm_obsRd (ga_cells hP).2.2.2.2.2.1
  intro o ho
  obtain ⟨i, _, rfl⟩ := List.mem_map.1 ho
  unfold obY
  split
  · exact Rd.nil
  · rw [List.getD_eq_getElem?_getD]
    cases h : t.s.obs[i]? with
    | none => exact Rd.nil
    | some o => exact hO.2 o (List.mem_of_getElem? h)
set_option maxRecDepth 100000 in
set_option maxHeartbeats 64000000 in
theorem gaminor_any {Ba Bm : Nat} {t : GaT} {w : World} (hP : (gaI Ba Bm t).P w) (ok : GaOk t) :
    Calls Try.prog 151 #[.pointer (some ⟨Ba, 0, none⟩)] w fun e w' => (∃ u, e = .returned u) ∧ ∃ t' : GaT, t'.a = t.a.minor ∧ t'.s.gone.length = t'.s.obs.length ∧ Sep (gaI Ba Bm t).fp w w' [gaI Ba Bm t'] := by
  have hl := ok.hl
  have hn := ok.n
  have hob : t.old.length = t.s.obs.length := by rw [← hl]; exact ok.ok.k
  have h8 : t.s.regs.length = 8 := ok.ok.m.r8
  have hf4 : ∀ fs ∈ t.a.gY, fs.length ≤ 1000 := fun fs hfs => by
    obtain ⟨i, _, rfl⟩ := List.mem_map.1 hfs
    split
    · exact Nat.zero_le _
    · unfold obA
      rw [List.getD_eq_getElem?_getD]
      cases h : t.a.σ.objs[((i : Int)).toNat]? with
      | none => exact Nat.zero_le _
      | some fs => have := ok.ok.m.f4 fs (List.mem_of_getElem? h); show fs.length ≤ 1000; omega
  have hgYl : t.a.gY.length = t.old.length := by unfold GrA.gY; rw [List.length_map, List.length_range]; rfl
  have hrtl : t.a.rt.length = 8 + t.mks.length := by
    unfold GrA.rt
    rw [List.length_append, List.length_map]
    show t.s.regs.length + t.mks.length = _
    rw [h8]
  have CR := hide (fun (X : World) (AO AR : Option Addr) (cO cR : Nat) (hP : (gaI Ba Bm t).P X) (h1 : Rd X (fun _ => True) 1 AO t.old.length ((obsY t t.old.length).map Ob.val)) (h2 : Rd X (fun _ => True) 2 AR (8 + t.mks.length) (vals (rtK t t.mks.length))) => reach_any X _ ((obsY t t.old.length).map Ob.fields) (rtK t t.mks.length) (graphRd_of (cO := cO) (cR := cR) ⟨h1, obsY_rd hP t.old.length⟩ h2) (by rw [obsY_gY, hgYl]; omega) (by rw [rtK_all, hrtl]; have := ok.mn; omega) (by rw [obsY_gY]; exact hf4))
  rw [obsY_gY, rtK_all] at CR
  have HRL := hide (show (reachR t.a.gY t.a.rt).length ≤ 1000 from by
    have h1 := reach_lenG t.a.gY t.a.rt
    omega)
  obtain ⟨R, hR⟩ : ∃ R, reachR t.a.gY t.a.rt = R := ⟨_, rfl⟩
  rw [hR] at CR HRL
  have HREG := hide (fun (X : World) (hP : (gaI Ba Bm t).P X) k (hk : k < t.s.regs.length) => ga_reg hP hk)
  have HMRK := hide (fun (X : World) (hP : (gaI Ba Bm t).P X) k (hk : k < t.mks.length) => ga_mark hP hk)
  have HFLD := hide (fun (X : World) (hP : (gaI Ba Bm t).P X) k (hk : k < t.mks.length) => ga_field hP (ok.mo _ (List.getElem_mem hk)).1 (ok.mo _ (List.getElem_mem hk)).2)
  have HOBJ := hide (fun (X : World) (hP : (gaI Ba Bm t).P X) i (hi : i < t.s.obs.length) => ga_ob hP hi)
  have HMO := hide (fun k (hk : k < t.mks.length) => (ok.mo _ (List.getElem_mem hk)).1)
  have HRT := hide (fun k (hk : k < t.mks.length) => rtK_succ t hk)
  have HRT0 := hide (show rtK t 0 = t.s.regs from by unfold rtK; simp)
  have HRTA := hide (rtK_all t)
  have HOY := hide (fun k (hk : k < t.old.length) => obsY_succ t k)
  have HOYV := hide (fun k (hk : k < t.s.obs.length) (h : t.a.od k = false) => (show obY t k = t.s.obs[k] from by unfold obY; rw [h, if_neg (by simp), List.getD_eq_getElem?_getD, List.getElem?_eq_getElem hk]; rfl))
  have HOYE := hide (fun k (h : t.a.od k = true) => (show obY t k = obE from by unfold obY; rw [if_pos h]))
  have HRES := hide (fun (X : World) (hX : Sep (gaI Ba Bm t).fp w X (gaL Ba Bm { t.up (updK (fun _ => true) t.old t.old.length) (updK (fun i => t.a.gn i || (!t.a.od i && !decide ((i : Int) ∈ R))) t.s.gone t.old.length) with Am := none, cm := 0, mks := [] } ++ [])) =>
    (show ∃ t' : GaT, t'.a = t.a.minor ∧ t'.s.gone.length = t'.s.obs.length ∧ Sep (gaI Ba Bm t).fp w X [gaI Ba Bm t'] from by
      refine ⟨_, ?_, ?_, ga_fold (by rw [List.append_nil] at hX; exact hX)⟩
      · show (⟨absR t.s, updK _ t.old _, updK _ t.s.gone _, []⟩ : GrA) = _
        rw [updK_all _ _ (Nat.le_refl _), updK_all _ _ (by rw [hl]; exact Nat.le_refl _), range_true]
        unfold GrA.minor
        rw [← hR]
        rfl
      · show (updK _ t.s.gone _).length = t.s.obs.length
        rw [updK_len _ _ (by rw [hl]; exact Nat.le_refl _)]
        exact ok.ok.k))
  have HLO := hide (fun k (hk : k ≤ t.old.length) => updK_len (fun _ => true) t.old hk)
  have HLG := hide (fun k (hk : k ≤ t.old.length) => updK_len (fun i => t.a.gn i || (!t.a.od i && !decide ((i : Int) ∈ R))) t.s.gone (k := k) (by rw [hl]; exact hk))
  have HGS := hide (fun k (hk : k < t.old.length) => updK_succ (fun i => t.a.gn i || (!t.a.od i && !decide ((i : Int) ∈ R))) t.s.gone (k := k) (by rw [hl]; exact hk))
  have HGM := hide (fun k (hk : k < t.old.length) (h : (t.a.gn k || (!t.a.od k && !decide ((k : Int) ∈ R))) = t.a.gn k) => updK_same (fun i => t.a.gn i || (!t.a.od i && !decide ((i : Int) ∈ R))) t.s.gone (k := k) (by rw [hl]; exact hk) h)
  have HOS := hide (fun k (hk : k < t.old.length) => updK_succ (fun _ => true) t.old (k := k) hk)
  have HOG := hide (fun k (hk : k < t.old.length) => (show (updK (fun _ => true) t.old k).getD k false = t.a.od k from updK_get _ _ hk))
  obtain ⟨fG, hfG⟩ : ∃ f : Nat → Bool, (fun i => t.a.gn i || (!t.a.od i && !decide ((i : Int) ∈ R))) = f := ⟨_, rfl⟩
  rw [hfG] at HRES HLG HGS HGM
  have HFG := hide (fun k => show fG k = (t.a.gn k || (!t.a.od k && !decide ((k : Int) ∈ R))) from by rw [← hfG])
  have HGL := hide hl
  have HMN := hide ok.mn
  have HM8 := hide h8
  obtain ⟨gB, hgB⟩ : ∃ g, w.heap.size = g := ⟨_, rfl⟩
  have hS0 := (Sep.start hP).blkAt 27 #[.slice none 0 0, .slice none 0 0] hgB
  have HS0 := hide (hS0.perm (l := [blkI gB 27 #[.slice none 0 0, .slice none 0 0], gaI Ba Bm t]) (List.perm_append_comm (l₁ := [_])))
  obtain ⟨c0, c1, c2, -, c4, -, c6, -⟩ := ga_cells hP
  obtain ⟨c8, c9⟩ := ga_objs hP
  rw [h8] at c9
  have HOB := hide hob
  rw [← hob] at c8
  obtain ⟨N, hN⟩ : ∃ n, t.old.length = n := ⟨_, rfl⟩
  obtain ⟨M, hM⟩ : ∃ n, t.mks.length = n := ⟨_, rfl⟩
  rw [hN] at HRES HLO HLG HGS HGM HOS HOG HGL CR HOY c1 c8 HOB hn
  rw [hM] at CR HMN HRTA c2
  have HMM := hide hM
  obtain ⟨Am, hAm0⟩ : ∃ x, t.Am = x := ⟨_, rfl⟩
  rw [hAm0] at c2 HMRK
  have HAM0 := hide hAm0
  have HNN := hide hN
  have HGB := hide hgB
  clear hP ok hl hR hN hM hfG hS0 hgB hAm0 hf4 hgYl hrtl hob h8
  go_enter Try.func151, Try.ntmps151
  go_wp2_with fail
  rw [HGB.out]
  go_loopw [20] (fun i wr => ∃ (k : Nat) (A : Option Addr) (c : Nat), k ≤ 8 ∧ i = .int .i64 k ∧ Sep (gaI Ba Bm t).fp w wr [rowI 107 2 A k c (vals (t.s.regs.take k)), blkI gB 27 #[.slice none 0 0, .slice A k c], gaI Ba Bm t]) (fun i _ => 8 - (intOf i).toNat)
  case atStart => exact ⟨0, none, 0, by omega, rfl, by simpa [vals] using HS0.out.nilRow0 107 2⟩
  case round =>
    clear HS0 c0 c1 c2 c4 c6 c8 c9
    obtain ⟨k, A, c, hk, rfl, hS⟩ := hrel
    obtain ⟨b1, b2, b3, -⟩ := hS.rules 1 (g := gB) (t := 27) rfl
    have b5 := (b1 1).trans (show _ = some (.slice A k c) from rfl)
    by_cases hlt : k < 8
    · have hkr : k < t.s.regs.length := by rw [HM8.out]; exact hlt
      obtain ⟨e0, e1, e2⟩ := HREG.out _ (hS.get 2 rfl) k hkr
      have HT := hide (List.take_succ_eq_append_getElem hkr)
      obtain ⟨x, hx⟩ : ∃ x, t.s.regs[k] = x := ⟨_, rfl⟩
      rw [hx] at e0 e1 HT
      have e4 := e0
      have e5 := e1
      rw [hraddr0] at e4 e5
      dsimp only at e2 e4 e5
      have HS := hide hS
      clear hS hx b1
      go_wp2_with (first
        | (at_builtin
           refine wpList_app1 (cs := #[.bool x.1, .int .i64 x.2]) rfl (.tmp 25) (.tmp 27) 25 rfl (F := (gaI Ba Bm t).fp) (W := w) sVal (items := _ :: _ :: _ :: _) (HS.out.alloc _) 0 (n := k) rfl rfl rfl (by simp) rfl rfl (by omega) ?_
           intro A4 c4 w4 hS4 hC4
           obtain ⟨u1, u2, u3, -⟩ := hS4.rules 1 (g := gB) (t := 27) rfl
           clear hC4))
      have HS5 := hide (hS4.set_ 1 (g := gB) (t := 27) rfl 1 (.slice A4 (k + 1) c4))
      clear hS4 u1
      go_roundw
      case rel => exact ⟨k + 1, A4, c4, by omega, by go_num, by rw [HT.out, vals_snoc]; exact HS5.out⟩
      case measure => simp [intOf]; omega
    · obtain rfl : k = 8 := by omega
      rw [List.take_of_length_le (by rw [HM8.out]; exact Nat.le_refl _)] at hS
      obtain ⟨c0, c1, c2, -, c4, -, c6, -⟩ := ga_cells (hS.get 2 rfl)
      rw [HMM.out, HAM0.out] at c2
      have HS1 := hide (show Sep (gaI Ba Bm t).fp w wr [rowI 107 2 A (8 + 0) c (vals (rtK t 0)), blkI gB 27 #[.slice none 0 0, .slice A (8 + 0) c], gaI Ba Bm t] from by rw [HRT0.out]; exact hS)
      clear hS b1 b2 b3 b5
      go_wp2_with fail
      go_loopw [36] (fun i wr => ∃ (k : Nat) (A : Option Addr) (c : Nat), k ≤ M ∧ i = .int .i64 k ∧ Sep (gaI Ba Bm t).fp w wr [rowI 107 2 A (8 + k) c (vals (rtK t k)), blkI gB 27 #[.slice none 0 0, .slice A (8 + k) c], gaI Ba Bm t]) (fun i _ => M - (intOf i).toNat)
      case atStart => exact ⟨0, A, c, by omega, rfl, HS1.out⟩
      case round =>
        clear HS1 c0 c1 c2 c4 c6
        obtain ⟨k, A, c, hk, rfl, hS⟩ := hrel
        by_cases hlt : k < M
        · have hkm : k < t.mks.length := by rw [HMM.out]; exact hlt
          obtain ⟨ad, hAm, e0, e1, e2⟩ := HMRK.out _ (hS.get 2 rfl) k hkm
          have HT := hide (HRT.out k hkm)
          obtain ⟨⟨p1, p2⟩, hp⟩ : ∃ p, t.mks[k] = p := ⟨_, rfl⟩
          obtain ⟨g6, hg6⟩ : ∃ x, wr.heap.size = x := ⟨_, rfl⟩
          have hS5 := hS.blkAt 174 #[.int .i64 (p1 : Int), .int .i64 (p2 : Int)] hg6
          obtain ⟨W5, hW5⟩ : ∃ W, wr.alloc (.cells #[.int .i64 (p1 : Int), .int .i64 (p2 : Int)] 174) = W := ⟨_, rfl⟩
          rw [hW5] at hS5
          obtain ⟨ga, ga2, hAo, hA2, d0, d1, d2, d3, d4, d5⟩ := HFLD.out _ (hS5.get 2 rfl) k hkm
          have hmo := HMO.out k hkm
          have hm200 := HMN.out
          rw [hp] at e0 e1 HT d0 d1 d2 d3 hmo hA2
          dsimp only at e0 e1 d0 d1 d2 d3 hmo hA2
          obtain ⟨n2, hn2⟩ : ∃ n, (t.s.obs.getD p1 obE).n = n := ⟨_, rfl⟩
          obtain ⟨cc2, hcc2⟩ : ∃ n, (t.s.obs.getD p1 obE).c = n := ⟨_, rfl⟩
          rw [hn2, hcc2] at d0
          rw [hn2] at d1
          obtain ⟨x, hx⟩ : ∃ x, mkV t (p1, p2) = x := ⟨_, rfl⟩
          rw [hx] at HT d2 d3
          obtain ⟨b1, b2, b3, -⟩ := hS5.rules 1 (g := gB) (t := 27) rfl
          have b5 := (b1 1).trans (show _ = some (.slice A (8 + k) c) from rfl)
          obtain ⟨y1, y2, y3, -⟩ := hS5.rules 3 (g := g6) (t := 174) rfl
          have y5 := (y1 0).trans (show _ = some (.int .i64 (p1 : Int)) from rfl)
          have y6 := (y1 1).trans (show _ = some (.int .i64 (p2 : Int)) from rfl)
          obtain ⟨q0, q1, q2, -, q4, -, q6, -⟩ := ga_cells (hS5.get 2 rfl)
          obtain ⟨q8, -⟩ := ga_objs (hS5.get 2 rfl)
          rw [hAo] at q8
          have t2 : (0 : Int) ≤ (p1 : Int) := by omega
          have t3 : (p1 : Int) < (t.s.obs.length : Int) := by omega
          have t4 : (0 : Int) ≤ (p2 : Int) := by omega
          have t5 : (p2 : Int) < (n2 : Int) := by omega
          have hmx : Try.prog.follows .mixedOrders = true := by kernel_rfl
          have HW5 := hide hW5
          have HS5 := hide hS5
          have HG6 := hide hg6
          subst hAm
          clear hS hS5 b1 y1 q1 q2 hW5
          go_upto_region 9 with fail
          rw [HW5.out]
          refine wp_region_z 21 (fun X => X.cell? ⟨gB, 1, none⟩ = some (.slice A (8 + k) c) ∧ X.cell? ⟨Ba, 0, none⟩ = some (.pointer (some ⟨Bm, 0, none⟩)) ∧ X.cell? ⟨Bm, 1, none⟩ = some (.slice (some ⟨ga, 0, none⟩) t.s.obs.length t.s.co) ∧ X.cell? ⟨g6, 0, none⟩ = some (.int .i64 (p1 : Int)) ∧ X.cell? ⟨ga, p1, none⟩ = some (.slice (some ⟨ga2, 0, none⟩) n2 cc2) ∧ X.cell? ⟨g6, 1, none⟩ = some (.int .i64 (p2 : Int)) ∧ X.cell? ⟨ga2, p2 * 2, none⟩ = some (.bool x.1) ∧ X.cell? ⟨ga2, p2 * 2 + 1, none⟩ = some (.int .i64 x.2)) hmx ?_
          refine wpAnyZ_takes (by kernel_rfl) (fun _ _ _ _ _ h => h) ?_ (fuel := 4) [0, 1, 2, 3, 4, 5, 6, 7, 8, 9, 10, 11, 12, 13, 14, 15, 16, 17] _ _ (Clo.start _) (by kernel_rfl) ?_
          · exact ⟨b5, q0, q8, y5, d0, y6, d2, d3⟩
          · iterate 18
              refine wpTake_cons (v := ?_) (by rfl) (by rfl) (fun wS hwS => ?_) ?_
              rotate_left 1
              · (try dsimp only at hwS)
                obtain ⟨v1, v2, v3, v4, v5, v6, v7, v8⟩ := hwS
                go_simp
                with_reducible rfl
              try simp only [Act.put, List.setIfInBounds_toArray, List.set_cons_zero, List.set_cons_succ]
            refine wpTake_nil ?_
            refine wpAnyZ_one (i := 18) (by kernel_rfl) rfl (fun K9 hK9 => ?_)
            go_simp
            have hbX : Below W5.heap.size W5 (W5.drew.alloc (.cells #[.bool x.1, .int .i64 x.2] 107)) := ((Below.refl _ W5).drew).alloc (Nat.le_refl _) _
            refine hK9.out _ _ (fun _ => ⟨cell_later hbX b5, cell_later hbX q0, cell_later hbX q8, cell_later hbX y5, cell_later hbX d0, cell_later hbX y6, cell_later hbX d2, cell_later hbX d3⟩) ?_
            clear hK9 K9
            refine wpAnyZ_one (i := 19) (by kernel_rfl) rfl (fun K9 hK9 => ?_)
            refine step_app1 (cs := #[.bool x.1, .int .i64 x.2]) rfl (.tmp 41) (.tmp 58) 25 rfl (F := (gaI Ba Bm t).fp) (W := w) sVal (items := _ :: _ :: _ :: _ :: _) HS5.out.drew 0 (n := 8 + k) rfl rfl rfl (by simp) rfl rfl (by omega) ?_
            intro A4 c4 w4 hS4 hC4
            obtain ⟨u1, u2, u3, -⟩ := hS4.rules 1 (g := gB) (t := 27) rfl
            have u5 := (u1 1).trans (show _ = some (.slice A (8 + k) c) from rfl)
            obtain ⟨l1, -, -, -⟩ := hS4.rules 3 (g := g6) (t := 174) rfl
            have l5 := (l1 0).trans (show _ = some (.int .i64 (p1 : Int)) from rfl)
            have l6 := (l1 1).trans (show _ = some (.int .i64 (p2 : Int)) from rfl)
            obtain ⟨r0, -, -, -, -, -, -, -⟩ := ga_cells (hS4.get 2 rfl)
            obtain ⟨r8, -⟩ := ga_objs (hS4.get 2 rfl)
            rw [hAo] at r8
            obtain ⟨ga', ga2', hAo', hA2', r1, -, r2, r3, -, -⟩ := HFLD.out _ (hS4.get 2 rfl) k hkm
            rw [hp] at hA2' r1 r2 r3
            rw [hx] at r2 r3
            dsimp only at hA2' r1 r2 r3
            rw [hn2, hcc2] at r1
            obtain rfl : ga = ga' := by rw [hAo] at hAo'; injection hAo' with h; injection h
            obtain rfl : ga2 = ga2' := by rw [hA2] at hA2'; injection hA2' with h; injection h
            have HS6 := hide ((hS4.set_ 1 (g := gB) (t := 27) rfl 1 (.slice A4 (8 + k + 1) c4)).sub (l := [_, _, _]) (List.sublist_append_left [_, _, _] [_]))
            refine hK9.out _ _ (fun _ => ⟨u5, r0, r8, l5, r1, l6, r2, r3⟩) ?_
            clear hK9 K9
            refine wpAnyZ_one (i := 20) (by kernel_rfl) rfl (fun K9 hK9 => ?_)
            go_simp
            refine hK9.out _ _ (fun _ => ⟨u5, r0, r8, l5, r1, l6, r2, r3⟩) ?_
            clear hK9 K9
            refine wpAnyZ_one (i := 21) (by kernel_rfl) rfl (fun K9 hK9 => ?_)
            go_simp
            refine hK9.out _ _ (fun h => absurd rfl h) ?_
            clear hK9 K9
            refine wpAnyZ_done (by kernel_rfl) ?_
            clear hS4 hC4 u1 u2 u3 u5 l1 l5 l6 r0 r8 r1 r2 r3 hAo' hA2'
            go_wp2_with fail
            go_roundw
            case rel => exact ⟨k + 1, by omega, by go_num, A4, c4, by rw [HT.out, vals_snoc]; exact HS6.out⟩
            case measure => simp [intOf]; omega
        · obtain rfl : k = M := by omega
          obtain ⟨c0, c1, c2, -, c4, -, c6, -⟩ := ga_cells (hS.get 2 rfl)
          rw [HNN.out] at c1
          rw [HRTA.out] at hS
          have hS1 := hS.nilRow0 119 1
          have HS1 := hide (show Sep (gaI Ba Bm t).fp w wr [rowI 119 1 none 0 0 ((obsY t 0).map Ob.val), blkI gB 27 #[.slice none 0 0, .slice A (8 + k) c], rowI 107 2 A (8 + k) c (vals t.a.rt), gaI Ba Bm t] from hS1.perm ((List.Perm.swap _ _ _).cons _))
          clear hS hS1
          go_wp2_with fail
          go_loopw [7] (fun i wr => ∃ (j : Nat) (A' : Option Addr) (c' : Nat), j ≤ N ∧ i = .int .i64 j ∧ Sep (gaI Ba Bm t).fp w wr [rowI 119 1 A' j c' ((obsY t j).map Ob.val), blkI gB 27 #[.slice A' j c', .slice A (8 + k) c], rowI 107 2 A (8 + k) c (vals t.a.rt), gaI Ba Bm t]) (fun i _ => N - (intOf i).toNat)
          case atStart => exact ⟨0, none, 0, by omega, rfl, HS1.out⟩
          case round =>
            clear HS1 c0 c1 c2 c4 c6
            obtain ⟨j, A', c', hj, rfl, hS⟩ := hrel
            obtain ⟨c0, c1, c2, -, c4, -, c6, -⟩ := ga_cells (hS.get 3 rfl)
            obtain ⟨c8, -⟩ := ga_objs (hS.get 3 rfl)
            rw [HNN.out] at c1
            rw [← HOB.out] at c8
            obtain ⟨b1, b2, b3, -⟩ := hS.rules 1 (g := gB) (t := 27) rfl
            have b5 := (b1 0).trans (show _ = some (.slice A' j c') from rfl)
            by_cases hlt2 : j < N
            · obtain ⟨go, ho1, ho2, ho3, ho4⟩ := ga_old (hS.get 3 rfl) (z := j) (by rw [HNN.out]; exact hlt2)
              have hjo : j < t.s.obs.length := by rw [← HOB.out]; exact hlt2
              obtain ⟨ga, ha1, ha2, ha3⟩ := HOBJ.out _ (hS.get 3 rfl) j hjo
              have HSU := hide (HOY.out j hlt2)
              rw [ho1] at c1
              rw [ha1] at c8
              have t1 : (j : Int) < (N : Int) := by omega
              cases hod : t.a.od j with
              | true =>
                rw [hod] at ho2
                have HE := hide (HOYE.out j hod)
                have HS := hide hS
                clear hS b1 ho1 ha1 hod
                go_wp2_with (first
                  | (at_builtin
                     refine wpList_app1 (cs := #[.slice none 0 0]) rfl (.tmp 91) (.tmp 93) 24 rfl (F := (gaI Ba Bm t).fp) (W := w) sObj (items := _ :: _ :: _ :: _ :: _) (HS.out.alloc _) 0 (n := j) rfl rfl rfl (by simp) rfl rfl (by omega) ?_
                     intro A4 c4 w4 hS4 hC4
                     obtain ⟨u1, u2, u3, -⟩ := hS4.rules 1 (g := gB) (t := 27) rfl
                     clear hC4))
                have HS5 := hide (hS4.set_ 1 (g := gB) (t := 27) rfl 0 (.slice A4 (j + 1) c4))
                clear hS4 u1
                go_roundw
                case rel => exact ⟨j + 1, by omega, by go_num, A4, c4, by rw [HSU.out, HE.out, List.map_append]; exact HS5.out⟩
                case measure => simp [intOf]; omega
              | false =>
                rw [hod] at ho2
                have HE := hide (HOYV.out j hjo hod)
                obtain ⟨oo, hoo⟩ : ∃ o, t.s.obs[j] = o := ⟨_, rfl⟩
                rw [hoo] at ha2 HE
                obtain ⟨oA, on, oc, ofs⟩ := oo
                dsimp only at ha2
                have HS := hide hS
                clear hS b1 ho1 ha1 hod hoo
                go_wp2_with (first
                  | (at_builtin
                     refine wpList_app1 (cs := #[.slice oA on oc]) rfl (.tmp 91) (.tmp 93) 24 rfl (F := (gaI Ba Bm t).fp) (W := w) sObj (items := _ :: _ :: _ :: _ :: _) (HS.out.alloc _) 0 (n := j) rfl rfl rfl (by simp) rfl rfl (by omega) ?_
                     intro A4 c4 w4 hS4 hC4
                     obtain ⟨u1, u2, u3, -⟩ := hS4.rules 1 (g := gB) (t := 27) rfl
                     clear hC4))
                have HS5 := hide (hS4.set_ 1 (g := gB) (t := 27) rfl 0 (.slice A4 (j + 1) c4))
                clear hS4 u1
                go_roundw
                case rel => exact ⟨j + 1, by omega, by go_num, A4, c4, by rw [HSU.out, HE.out, List.map_append]; exact HS5.out⟩
                case measure => simp [intOf]; omega
            · obtain rfl : j = N := by omega
              have b6 := (b1 1).trans (show _ = some (.slice A (8 + k) c) from rfl)
              have C9 := hide (CR.out wr A' A c' c (hS.get 3 rfl) (hS.rd_ 0 rfl) (hS.rd_ 2 rfl))
              have hS9 := hS.sub (l := [gaI Ba Bm t]) (List.Sublist.cons _ (List.Sublist.cons _ (List.Sublist.cons _ (List.Sublist.refl _))))
              have HF := hide (show Sep (gaI Ba Bm t).fp w wr (gaL Ba Bm t) from Sep.flat hS9)
              clear hS hS9 b1
              go_wp2_with fail
              refine C9.out.mono ?_
              rintro e w1 ⟨A2, n2, cc2, rfl, hP1⟩
              have hn2 : R.length = n2 := by have := (show w1.ownsRow 0 3 1 (.slice A2 n2 cc2) n2 (ints R) from hP1.get 0 rfl).1; simpa using this
              have HN2 := hide (show n2 ≤ 1000 by rw [← hn2]; exact HRL.out)
              have HS1 := hide (show Sep (gaI Ba Bm t).fp w w1 ([rowI 3 1 A2 n2 cc2 (ints R)] ++ (gaL Ba Bm (t.up (updK (fun _ => true) t.old 0) (updK fG t.s.gone 0)) ++ [])) from
                HF.out.consNew hP1.below_ _ (hP1.get 0 rfl) (fun g hg => (hP1.lo 0 rfl g hg).resolve_left (fun h => h)))
              clear hP1 C9 HF hn2 c0 c1 c2 c4 c6 c8 HRL b2 b3 b5 b6
              go_wp2_with fail
              go_loopw [10] (fun i wr => ∃ (k : Nat), k ≤ j ∧ i = .int .i64 k ∧ Sep (gaI Ba Bm t).fp w wr ([rowI 3 1 A2 n2 cc2 (ints R)] ++ (gaL Ba Bm (t.up (updK (fun _ => true) t.old k) (updK fG t.s.gone k)) ++ []))) (fun i _ => j - (intOf i).toNat)
              case atStart => exact ⟨0, by omega, rfl, HS1.out⟩
              case round =>
                clear HS1
                obtain ⟨k, hk, rfl, hS⟩ := hrel
                obtain ⟨tk, htk⟩ : ∃ q, t.up (updK (fun _ => true) t.old k) (updK fG t.s.gone k) = q := ⟨_, rfl⟩
                have hlo : tk.old.length = j := by rw [← htk]; exact HLO.out k hk
                have hlg : tk.s.gone.length = j := by rw [← htk]; exact (HLG.out k hk).trans HGL.out
                have hS' := hS
                rw [htk] at hS
                have hPk := ga_get hS
                obtain ⟨c0, c1, c2, c3, c4, -, c6, c7⟩ := ga_cells hPk
                rw [hlo] at c1
                rw [hlg] at c7
                by_cases hlt : k < j
                · obtain ⟨go, ho1, ho2, ho3, ho4⟩ := ga_old hPk (z := k) (by rw [hlo]; exact hlt)
                  obtain ⟨gg, hg1, hg2, hg3, hg4⟩ := ga_gone hPk (z := k) (by rw [hlg]; exact hlt)
                  obtain ⟨n1, n2', n3, n4, n5⟩ := ga_apart hS ho1 hg1
                  have hrd := hS.rd_ 0 rfl
                  have CH := hide (has_any _ (fun _ => True) A2 n2 cc2 R (k : Int) (by have := HN2.out; omega) hrd)
                  have hso := ga_setO hS ho1 k true
                  have hsg := ga_setO (ga_setG hS (gg := gg) hg1 k) ho1 k true
                  have HOK := hide (HOS.out k hlt)
                  have HGK := hide (HGS.out k hlt)
                  have HGE := hide (HGM.out k hlt)
                  have HSO := hide hso
                  have HSG := hide hsg
                  have HTK := hide htk
                  have hod1 : tk.a.od k = t.a.od k := by rw [← htk]; exact HOG.out k hlt
                  rw [hod1] at ho2
                  have t1 : (k : Int) < (j : Int) := by omega
                  rw [ho1] at c1
                  rw [hg1] at c7
                  have e1 : go ≠ gg := n1
                  have e2 : gg ≠ go := fun h => n1 h.symm
                  have e3 : Ba ≠ go := fun h => n2' h.symm
                  have e4 : Bm ≠ go := fun h => n4 h.symm
                  have e5 : Ba ≠ gg := fun h => n3 h.symm
                  have e6 : Bm ≠ gg := fun h => n5 h.symm
                  unfold RetB at CH
                  cases hod : t.a.od k with
                  | true =>
                    rw [hod] at ho2 HGE
                    have HE2 := hide (show updK fG t.s.gone (k + 1) = updK fG t.s.gone k from HGE.out (by simp))
                    clear hS hS' hPk hso hsg hrd HGE htk c2 ho1 hg1 hod hod1 CH
                    go_wp2_with fail
                    go_roundw
                    case rel => exact ⟨k + 1, by omega, by go_num, by
                      rw [HOK.out, HE2.out]
                      have h := HSO.out
                      rw [← HTK.out] at h
                      exact h⟩
                    case measure => simp [intOf]; omega
                  | false =>
                    rw [hod] at ho2 HGE HGK
                    by_cases hm : (k : Int) ∈ R
                    · rw [decide_eq_true hm] at CH HGE
                      have HE2 := hide (show updK fG t.s.gone (k + 1) = updK fG t.s.gone k from HGE.out (by simp))
                      clear hS hS' hPk hso hsg hrd HGE htk hm c2 ho1 hg1 hod hod1
                      go_wp2_with fail
                      refine CH.out.mono ?_
                      rintro e w2 ⟨rfl, rfl⟩
                      clear CH
                      go_wp2_with fail
                      go_roundw
                      case rel => exact ⟨k + 1, by omega, by go_num, by
                        rw [HOK.out, HE2.out]
                        have h := HSO.out
                        rw [← HTK.out] at h
                        exact h⟩
                      case measure => simp [intOf]; omega
                    · rw [decide_eq_false hm] at CH
                      have HE2 := hide (show updK fG t.s.gone (k + 1) = (updK fG t.s.gone k).set k true from by rw [HGK.out]; simp [hm])
                      clear hS hS' hPk hso hsg hrd HGE htk hm c2 ho1 hg1 hod hod1
                      go_wp2_with fail
                      refine CH.out.mono ?_
                      rintro e w2 ⟨rfl, rfl⟩
                      clear CH
                      go_wp2_with fail
                      go_roundw
                      case rel => exact ⟨k + 1, by omega, by go_num, by
                        rw [HOK.out, HE2.out]
                        have h := HSG.out
                        rw [← HTK.out] at h
                        exact h⟩
                      case measure => simp [intOf]; omega
                · have hkj : k = j := by omega
                  subst hkj
                  have hsn := ga_setN (L := [rowI 3 1 A2 n2 cc2 (ints R)]) (hS.perm (by
                    rw [List.append_nil]
                    exact List.perm_append_comm (l₁ := [_])))
                  have HSN := hide (hsn.sub (l := gaL Ba Bm { tk with Am := none, cm := 0, mks := [] } ++ []) (by rw [List.append_nil]; exact List.sublist_append_left _ _))
                  have HTK := hide htk
                  clear hS hS' hPk hsn htk
                  go_wp2_with fail
                  go_end0
                  refine ⟨⟨_, rfl⟩, HRES.out _ ?_⟩
                  have h := HSN.out
                  rw [← HTK.out] at h
                  exact h
end Go.Proofs.Ytjphckfbbiehdaa
