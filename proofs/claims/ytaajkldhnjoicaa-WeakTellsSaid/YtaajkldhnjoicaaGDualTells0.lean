/- Counts and traces: what each number would be. Counts and traces, plain: the numbers of a set; supports; the settled numbers. slices.Repeat of one number, at most twenty-four times. -/
import Derived.Test.YtaajkldhnjoicaaGTrialTells2
import Derived.Laws.CopyOwn
set_option linter.unusedSimpArgs false
set_option linter.unusedVariables false
namespace Go.Proofs.Ytaajkldhnjoicaa
open Go.RowKit Go.Shelf
attribute [local go_sem] Oper.semAt_some

/-- What the numbers are after so many objects, of which some are there. -/
structure CnI (gs : List (List Val)) (vs : List Val) (n : Nat) (c : List Int) (k : Nat) (l : List Int) : Prop where
  len : l.length = n
  at_ : ∀ j : Nat, j < n → l.getD j 0 = cnt (tgts vs) j + sumN (fun x => if 0 < c.getD x 0 then cnt (tgts (fieldsI gs (x : Int))) j else 0) k
theorem permDu_ {α : Type} (a b c d : α) : [a, b, c, d].Perm [b, a, c, d] := by
  classical
  rw [List.perm_iff_count]
  intro x
  simp only [List.count_cons, List.count_nil]
  omega
section
variable {gs : List (List Val)} {vs : List Val} {n : Nat} {c : List Int}
theorem CnI.start (hv : ValsOk n vs) : CnI gs vs n c 0 (addC (List.replicate n 0) (tgts vs)) :=
  ⟨by rw [addC_len]; simp, fun j _ => by rw [addC_get (n := n) (by simp) (tgts_rngs hv), zeros_get]; simp [sumN]⟩
theorem CnI.yes {k : Nat} {l : List Int} (a : CnI gs vs n c k l) (hv : ValsOk n (fieldsI gs (k : Int))) (hc : 0 < c.getD k 0) : CnI gs vs n c (k + 1) (addC l (tgts (fieldsI gs (k : Int)))) :=
  ⟨by rw [addC_len]; exact a.len, fun j hj => by
    rw [addC_get a.len (tgts_rngs hv), a.at_ j hj, Int.add_assoc]
    show _ = _ + (sumN _ k + (if 0 < c.getD k 0 then _ else _))
    rw [if_pos hc]⟩
theorem CnI.no {k : Nat} {l : List Int} (a : CnI gs vs n c k l) (hc : ¬ 0 < c.getD k 0) : CnI gs vs n c (k + 1) l :=
  ⟨a.len, fun j hj => by
    rw [a.at_ j hj]
    show _ = _ + (sumN _ k + (if 0 < c.getD k 0 then _ else _))
    rw [if_neg hc, Int.add_zero]⟩
theorem CnI.bnd {k : Nat} {l : List Int} (a : CnI gs vs n c k l) (hk : k ≤ n) (hn : n ≤ 24) (hvl : vs.length ≤ 8) (hf : ∀ x : Int, (fieldsI gs x).length ≤ 4) : ∀ j : Nat, j < n → 0 ≤ l.getD j 0 ∧ l.getD j 0 ≤ 1000 := fun j hj => by
  rw [a.at_ j hj]
  have h1 := cnt_nonneg (tgts vs) j
  have h2 := cnt_le (tgts vs) j
  have h3 := tgts_len vs
  have h4 : 0 ≤ sumN (fun x => if 0 < c.getD x 0 then cnt (tgts (fieldsI gs (x : Int))) j else 0) k := sumN_nonneg fun x _ => by
    have := cnt_nonneg (tgts (fieldsI gs (x : Int))) j
    split <;> omega
  have h5 : sumN (fun x => if 0 < c.getD x 0 then cnt (tgts (fieldsI gs (x : Int))) j else 0) k ≤ 4 * (k : Int) := sumN_le 4 fun x _ => by
    have h1 := cnt_le (tgts (fieldsI gs (x : Int))) j
    have h2 := tgts_len (fieldsI gs (x : Int))
    have h3 := hf x
    split <;> omega
  omega
end

set_option maxRecDepth 100000 in
set_option maxHeartbeats 8000000 in
theorem counted_any (w : World) (AO AR AC : Option Addr) (nO cO nR cR cC : Nat) (obs : List Ob) (roots : List Val) (gs : List (List Val)) (cs : List Int) (h3 : obs.map Ob.fields = gs) (hO : ObsRd w (fun _ => True) AO nO obs) (hR : Rd w (fun _ => True) 2 AR nR (vals roots)) (hC : Rd w (fun _ => True) 1 AC nO (ints cs)) (hG : GOk nO nR obs roots) :
    Calls Try.prog 95 #[.agg #[.slice AO nO cO, .slice AR nR cR], .slice AC nO cC] w fun e w' => ∃ A c l, e = .returned (.slice A nO c) ∧ CnI gs roots nO cs nO l ∧ Sep No w w' [rowI 3 1 A nO c (ints l)] := by
  have hn := hG.nO_
  have hS0 := (Sep.nil No w).blkAt 25 #[.slice AO nO cO, .slice AR nR cR] rfl
  obtain ⟨a1, a2, a3, a4⟩ := hS0.rules 0 (g := w.heap.size) (t := 25) rfl
  have a5 := a1 0
  have a6 := a1 1
  have hv : ∀ x : Int, ValsOk nO (fieldsI gs x) := fun x => by have := fieldsI_ok (x := x) hG.vg; rw [hG.len, h3] at this; exact this
  have hvr : ValsOk nO roots := by have := hG.vr; rw [hG.len] at this; exact this
  have hf4 : ∀ x : Int, (fieldsI gs x).length ≤ 4 := fun x => by rw [← h3]; exact fields_le hG.fs x
  have HS0 := hide hS0
  have HV := hide hv
  have HVR := hide hvr
  have HF4 := hide hf4
  have HG := hide hG
  have H3 := hide h3
  have HRL := hide (roots_len hR)
  have HCL0 := hide (show cs.length = nO by have := hC.1; simpa using this)
  have HOO := hide (hO.more (D' := fun k => k < w.heap.size) (fun k hk _ => hk))
  have HRR := hide (hR.more (D' := fun k => k < w.heap.size) (fun k hk _ => hk))
  have HCC := hide (hC.more (D' := fun k => k < w.heap.size) (fun k hk _ => hk))
  have hnR := hG.nR_
  clear hS0 a1 a4 hv hvr hf4 hG h3 hO hR hC
  refine (callsIn_wide (n := 10)).1 ?_
  refine callsIn_of_wp_calm Try.func95 rfl trivial ?_ rfl
  simp only [Try.ntmps95, List.size_toArray, List.length_cons, List.length_nil, Nat.reduceAdd, Nat.reduceSub, Array.replicate_succ, Array.replicate_zero, List.push_toArray, List.append_toArray, List.nil_append, List.cons_append]
  gi_wp2_with (first
    | (gi_at_make
       refine wpListIn_make rfl (.tmp 12) (.tmp 12) 35 rfl HS0.out Try.underlying35 fInt (by omega) .i64 .i64 nO rfl rfl (by omega) ?_
       intro w1 hS1 hb1
       rw [dMadeInts, World.size_alloc] at hS1
       obtain ⟨b1, b2, b3, b4⟩ := hS1.rules 0 (g := w.heap.size) (t := 25) rfl
       (have b5 := b1 0)
       (have b6 := b1 1)
       (have HS1 := hide hS1)
       clear hS1 hb1 HS0 a2 a3 a5 a6 b1 b4)
    | (refine ⟨trivial, ?_⟩; gi_at_call 69; refine (targets_in Fence.wide 9 trivial rfl _ _ _ _).mono ?_; rintro e w2 ⟨rfl, rfl⟩))
  have hS2 := ((HS1.out.blkAt 35 #[.slice (some ⟨w.heap.size + 1, 0, none⟩) nO nO] (g := w1.heap.size) rfl).blkAt 23 #[.slice AR nR cR] (g := w1.heap.size + 1) (by simp)).perm (l := [keIt (w.heap.size + 1) nO (List.replicate nO 0), blkI w.heap.size 25 #[.slice AO nO cO, .slice AR nR cR], blkI w1.heap.size 35 #[.slice (some ⟨w.heap.size + 1, 0, none⟩) nO nO], blkI (w1.heap.size + 1) 23 #[.slice AR nR cR]]) (permDu_ _ _ _ _)
  have hgl : w.heap.size ≤ w.heap.size + 1 := by omega
  refine wpIn_tgt (n := 10) rfl (by omega) trivial (w1.heap.size + 1) (by rfl) (by rfl) (keIt (w.heap.size + 1) nO) (List.replicate nO 0) (vs := roots) (by omega) (hS2.get 3 rfl) (hS2.other (a := 3) (b := 0) rfl rfl (by omega) _ rfl)
      ((HRR.out.below hS2.below_).more (fun g _ hg hf => by rw [keIt_fp.1 hf] at hg; omega))
      (fun pre s => s = addC (List.replicate nO 0) pre ∧ ∀ y ∈ pre, y ∈ tgts roots) (fun _ _ _ => False) (fun s => Tame.row _ _ _ _ _ _ _) ⟨rfl, by simp⟩ (hS2.get 0 rfl) ?a1 ?assign ?body ?done ?stop
  case assign =>
    intro l x W K hK
    gi_wp2
    exact hK
  case stop =>
    rintro Dd c pre s W hD hpre hF
    exact hF.elim
  case body =>
    rintro lo pre x h2 W hx hpre hlen ⟨hI, hI2⟩ hP2
    obtain ⟨x0, x1⟩ := tgts_rngs HVR.out x hx
    obtain ⟨z, rfl⟩ := int_nat x0
    have hz : z < nO := by omega
    have hln : h2.length = nO := by rw [hI, addC_len]; simp
    have hSW := hS2.call 0 rfl hP2
    obtain ⟨d1, d2, d3, d4⟩ := hSW.rules 2 (g := w1.heap.size) (t := 35) rfl
    have d5 := d1 0
    obtain ⟨q1, q2⟩ := row_int (hSW.get 0 rfl) z hz
    have hval : h2.getD z 0 = cnt pre z := by rw [hI, addC_get (n := nO) (by simp) (fun y hy => tgts_rngs HVR.out y (hI2 y hy)) z, zeros_get]; omega
    have hc1 := cnt_le pre z
    have hc2 := cnt_nonneg pre z
    have hvl2 := tgts_len roots
    have hvl := HRL.out
    obtain ⟨y2, hy2⟩ : ∃ y, h2.getD z 0 = y := ⟨_, rfl⟩
    have hP3 := (Sep.start (hP2.get 0 rfl)).store 0 (g := w.heap.size + 1) rfl z (.int .i64 (y2 + 1))
    rw [ints_set_] at hP3
    have HST := hide (show h2.set z (y2 + 1) = addC (List.replicate nO 0) (pre ++ [(z : Int)]) from by rw [addC_snoc, ← hI, show ((z : Int)).toNat = z from by omega, hy2])
    have HPRE := hide (show ∀ y ∈ pre ++ [(z : Int)], y ∈ tgts roots from fun y hy => by
      rcases List.mem_append.1 hy with h | h
      · exact hI2 y h
      · rw [show y = (z : Int) from by simpa using h]; exact hx)
    have hy3 : 0 ≤ y2 := by omega
    have hy4 : y2 ≤ 1100 := by omega
    rw [hy2] at q1
    have HP3 := hide hP3
    have hglz := hSW.hi 0 rfl (w.heap.size + 1) (keIt_fp.2 rfl)
    clear hx hpre hlen hI hI2 hP2 x0 x1 hSW d1 d4 hP3 hval hc1 hc2 hvl hvl2 hy2 hS2 hln
    gi_wp2
    exact ⟨_, ⟨HST.out, HPRE.out⟩, HP3.out⟩
  case done =>
    rintro Dd h2 W hD ⟨hI, _⟩ hP2 hK
    have HI := hide (show CnI gs roots nO cs 0 h2 from by rw [hI]; exact CnI.start HVR.out)
    have hCL : Colls w.heap.size W [{ target := .collected Dd, args := #[] }] := ⟨Dd, rfl, by simp at hD; omega, hK, by simp, trivial⟩
    have hSW := hS2.call 0 rfl hP2
    have HSW := hide hSW
    have HCL := hide hCL
    obtain ⟨d1, d2, d3, d4⟩ := hSW.rules 1 (g := w.heap.size) (t := 25) rfl
    have d5 := d1 0
    clear hI hP2 hK hCL hSW hS2 d1 d4
    gi_wp2
    refine wpIn_loop_ghost_k (fun (g : Nat) (a' : Act) (w' : World) => ∃ (u7 u8 u9 u27 u28 u29 u30 u31 u32 u33 u34 u35 u36 u37 u38 u39 u40 u41 u42 u43 u44 u45 u46 u47 u48 : Value) (ds : List Deferred), (∃ (k : Nat) (l : List Int), u27 = .int .i64 k ∧ g = nO - k ∧ k ≤ nO ∧ Hid (CnI gs roots nO cs k l) ∧ Hid (Colls w.heap.size w' ds) ∧ Sep No w w' [keIt (w.heap.size + 1) nO l, blkI w.heap.size 25 #[.slice AO nO cO, .slice AR nR cR], blkI w1.heap.size 35 #[.slice (some ⟨w.heap.size + 1, 0, none⟩) nO nO]]) ∧ a' = { tmps := #[.agg #[.slice AO nO cO, .slice AR nR cR], .slice AC nO cC, .pointer (some ⟨w.heap.size, 0, none⟩), undef, .slice none 0 0, .pointer (some ⟨w1.heap.size, 0, none⟩), undef, u7, u8, u9, .pointer (some ⟨w.heap.size, 0, none⟩), .slice AO nO cO, .int .i64 ↑nO, .slice (some ⟨w.heap.size + 1, 0, none⟩) nO nO, .pointer (some ⟨w.heap.size, 1, none⟩), .slice AR nR cR, .func (.func 119) #[] #[.pointer (some ⟨w1.heap.size + 1, 0, none⟩)], undef, undef, undef, undef, undef, undef, undef, .pointer (some ⟨w.heap.size, 0, none⟩), .slice AO nO cO, .int .i64 ↑nO, u27, u28, u29, u30, u31, u32, u33, u34, u35, u36, u37, u38, u39, u40, u41, u42, u43, u44, u45, u46, u47, u48], defers := ds }) nO ?atStart ?round
    case atStart =>
      (repeat apply Exists.intro)
      refine ⟨⟨0, h2, rfl, rfl, Nat.zero_le _, HI, HCL, HSW.out.sub (by simp)⟩, rfl⟩
    case round =>
      clear HI HCL HSW
      rintro gk a' wv ⟨u7, u8, u9, u27, u28, u29, u30, u31, u32, u33, u34, u35, u36, u37, u38, u39, u40, u41, u42, u43, u44, u45, u46, u47, u48, ds, ⟨k, l, rfl, hgk, hk, HI, HCL, hS⟩, rfl⟩ J K hJ hK
      clear b2 b3 b5 b6 d2 d3 d5 HS1
      by_cases hkn : k < nO
      · have hzl : k < obs.length := by rw [HOO.out.len]; exact hkn
        have hOw := HOO.out.below hS.below_
        obtain ⟨ad, hAO, _, had, hc⟩ := hOw.row.at_ hkn
        have e1 := hc obs[k].val (by simp [List.getElem?_eq_getElem hzl])
        have hEach := hOw.each _ (List.getElem_mem hzl)
        have hFl := HOO.out.flen (List.getElem_mem hzl)
        have hF1 := HG.out.fs _ (List.mem_map_of_mem (f := Ob.fields) (List.getElem_mem hzl))
        have hfi : fieldsI gs (k : Int) = obs[k].fields := by
          unfold fieldsI
          rw [← H3.out, List.getD_eq_getElem?_getD]
          simp [List.getElem?_eq_getElem hzl]
        obtain ⟨o, ho⟩ : ∃ o, obs[k] = o := ⟨_, rfl⟩
        rw [ho] at e1 hEach hFl hF1 hfi
        unfold Ob.val at e1
        have hCw := HCC.out.below hS.below_
        obtain ⟨bd, hAC, _, hbd, hcc⟩ := hCw.at_ hkn
        have e2 := hcc (.int .i64 (cs.getD k 0)) (by rw [ints_get' _ _ (by have := HCL0.out; omega)]; simp [List.getD_eq_getElem?_getD, List.getElem?_eq_getElem (show k < cs.length by have := HCL0.out; omega)])
        have hnl : decide ((k : Int) < (nO : Int)) = true := by simp; omega
        obtain ⟨cv, hcv⟩ : ∃ c, cs.getD k 0 = c := ⟨_, rfl⟩
        rw [hcv] at e2
        obtain ⟨b1, b2, b3, b4⟩ := hS.rules 2 (g := w1.heap.size) (t := 35) rfl
        have b5 := b1 0
        have HS := hide hS
        have HO := hide ho
        have HFI := hide hfi
        have HEACH := hide hEach
        have HFL := hide hFl
        have HCV := hide hcv
        clear hS hc hcc ho hfi hEach hFl hcv hCw hOw b1 b4
        subst hAO
        subst hAC
        have hbd9 : (bd.add k).block < wv.heap.size := by
          simp only [Addr.add]
          split <;> exact hbd
        have e3 : (wv.alloc (.cells #[.slice o.A o.n o.c] 83)).cell? (bd.add k) = some (.int .i64 cv) := by
          exact (World.cell?_alloc_lt wv _ (bd.add k) hbd9).trans e2
        by_cases hc : 0 < cv
        · have t1 : decide (0 < cv) = true := by simp; omega
          gi_wp2_with (refine ⟨trivial, ?_⟩; gi_at_call 69; refine (targets_in Fence.wide 9 trivial rfl _ _ _ _).mono ?_; rintro e w5 ⟨rfl, rfl⟩)
          have hS2 := (HS.out.blkAt 83 #[.slice o.A o.n o.c] (g := wv.heap.size) rfl).blkAt 23 #[.slice o.A o.n o.c] (g := wv.heap.size + 1) (by simp)
          have hEB := (HEACH.out.below ((Below.refl _ wv).alloc (Nat.le_refl _) (.cells #[.slice o.A o.n o.c] 83))).below ((Below.refl _ _).alloc (Nat.le_refl _) (.cells #[.slice o.A o.n o.c] 23))
          have hll := HI.out.len
          refine wpIn_tgt (n := 10) rfl (by omega) trivial (wv.heap.size + 1) (by rfl) (by rfl) (keIt (w.heap.size + 1) nO) l (vs := o.fields) (by have := HFL.out; omega) (hS2.get 4 rfl) (hS2.other (a := 4) (b := 0) rfl rfl (by omega) _ rfl) ?hrd
            (fun pre s => s = addC l pre ∧ ∀ y ∈ pre, y ∈ tgts o.fields) (fun _ _ _ => False) (fun s => Tame.row _ _ _ _ _ _ _) ⟨rfl, by simp⟩ (hS2.get 0 rfl) ?a2 ?assign2 ?body2 ?done2 ?stop2
          case hrd =>
            exact hEB.more (fun g _ hg hf => by rw [keIt_fp.1 hf] at hg; omega)
          case assign2 =>
            intro l x W K hK
            gi_wp2
            exact hK
          case stop2 =>
            rintro Dd c pre s W hD hpre hF
            exact hF.elim
          case body2 =>
            rintro lo pre x h2 W hx hpre hlen ⟨hI, hI2⟩ hP2
            have hvo : ValsOk nO o.fields := by rw [← HFI.out]; exact HV.out _
            obtain ⟨x0, x1⟩ := tgts_rngs hvo x hx
            obtain ⟨z, rfl⟩ := int_nat x0
            have hz : z < nO := by omega
            have hln : h2.length = nO := by rw [hI, addC_len]; exact hll
            have hSW := hS2.call 0 rfl hP2
            obtain ⟨d1, d2, d3, d4⟩ := hSW.rules 2 (g := w1.heap.size) (t := 35) rfl
            have d5 := d1 0
            obtain ⟨q1, q2⟩ := row_int (hSW.get 0 rfl) z hz
            have hval : h2.getD z 0 = l.getD z 0 + cnt pre z := by rw [hI, addC_get hll (fun y hy => tgts_rngs hvo y (hI2 y hy)) z]
            have hc1 := cnt_le pre z
            have hc2 := cnt_nonneg pre z
            have hc3 : pre.length ≤ 4 := by
              have h1 := hlen
              have h2 := tgts_len o.fields
              omega
            obtain ⟨hc4, hc5⟩ := HI.out.bnd hk hn (by have := HRL.out; omega) HF4.out z hz
            obtain ⟨y2, hy2⟩ : ∃ y, h2.getD z 0 = y := ⟨_, rfl⟩
            have hP3 := (Sep.start (hP2.get 0 rfl)).store 0 (g := w.heap.size + 1) rfl z (.int .i64 (y2 + 1))
            rw [ints_set_] at hP3
            have HST := hide (show h2.set z (y2 + 1) = addC l (pre ++ [(z : Int)]) from by rw [addC_snoc, ← hI, show ((z : Int)).toNat = z from by omega, hy2])
            have HPRE := hide (show ∀ y ∈ pre ++ [(z : Int)], y ∈ tgts o.fields from fun y hy => by
              rcases List.mem_append.1 hy with h | h
              · exact hI2 y h
              · rw [show y = (z : Int) from by simpa using h]; exact hx)
            have hy3 : 0 ≤ y2 := by omega
            have hy4 : y2 ≤ 1100 := by omega
            rw [hy2] at q1
            have HP3 := hide hP3
            have hglz := hSW.hi 0 rfl (w.heap.size + 1) (keIt_fp.2 rfl)
            clear hx hpre hlen hI hI2 hP2 x0 x1 hSW d1 d4 hP3 hval hc1 hc2 hc3 hc4 hc5 hy2 hS2 hln hvo hEB hll
            gi_wp2
            exact ⟨_, ⟨HST.out, HPRE.out⟩, HP3.out⟩
          case done2 =>
            rintro Dd2 h2 W2 hD2 ⟨hI, _⟩ hP2 hK2
            have hkf : KeepsFrom w.heap.size wv W2 := (((KeepsOthers.alloc wv (.cells #[.slice o.A o.n o.c] 83)).trans (KeepsOthers.alloc _ (.cells #[.slice o.A o.n o.c] 23))).from _).trans (hP2.bel.keepsFrom (fun k o hk ho hc => (show Tame w.heap.size (keIt (w.heap.size + 1) nO l) from Tame.row _ _ _ _ _ _ _).far (hS2.get 0 rfl) hk ho hc))
            have hszv : w.heap.size ≤ wv.heap.size := HS.out.bel.size
            have hCL2 := HCL.out.push hkf.same hszv (by simp at hD2; omega) hK2
            have HI2 := hide (show CnI gs roots nO cs (k + 1) h2 from by
              rw [hI, ← HFI.out]
              exact HI.out.yes (HV.out _) (by rw [HCV.out]; exact hc))
            have HFAR := hide (show Tame w.heap.size (keIt (w.heap.size + 1) nO l) from Tame.row _ _ _ _ _ _ _)
            have HCL2 := hide hCL2
            have HS3 := hide ((hS2.call 0 rfl hP2).sub (l := [keIt (w.heap.size + 1) nO h2, blkI w.heap.size 25 #[.slice (some ad) nO cO, .slice AR nR cR], blkI w1.heap.size 35 #[.slice (some ⟨w.heap.size + 1, 0, none⟩) nO nO]]) (by simp))
            have W1 : IntKind.i64.wrap ((k : Int) + 1) = ((k + 1 : Nat) : Int) := by simp only [IntKind.wrap_i64]; omega
            clear hI hP2 hK2 hCL2 hS2 hkf hEB HI HCL HS hll hD2
            gi_wp2
            gi_roundg (nO - (k + 1))
            case measure => omega
            case rel => exact ⟨k + 1, h2, rfl, rfl, by omega, HI2, HCL2, HS3.out⟩
        · have t1 : decide (0 < cv) = false := by simp; omega
          have HI2 := hide (show CnI gs roots nO cs (k + 1) l from HI.out.no (by rw [HCV.out]; exact hc))
          have W1 : IntKind.i64.wrap ((k : Int) + 1) = ((k + 1 : Nat) : Int) := by simp only [IntKind.wrap_i64]; omega
          have HS3 := hide ((HS.out.blkAt 83 #[.slice o.A o.n o.c] (g := wv.heap.size) rfl).sub (l := [keIt (w.heap.size + 1) nO l, blkI w.heap.size 25 #[.slice (some ad) nO cO, .slice AR nR cR], blkI w1.heap.size 35 #[.slice (some ⟨w.heap.size + 1, 0, none⟩) nO nO]]) (by simp))
          have HCL2 := hide (HCL.out.keep (w' := wv.alloc (.cells #[.slice o.A o.n o.c] 83)) (fun k o _ hk _ => (Below.heap_alloc wv _ k (Array.getElem?_eq_some_iff.1 hk).1).trans hk))
          clear HI HCL HS
          gi_wp2
          gi_roundg (nO - (k + 1))
          case measure => omega
          case rel => exact ⟨k + 1, l, rfl, rfl, by omega, HI2, HCL2, HS3.out⟩
      · obtain rfl : k = nO := by omega
        have t1 : decide ((k : Int) < (k : Int)) = false := by simp
        obtain ⟨b1, b2, b3, b4⟩ := hS.rules 2 (g := w1.heap.size) (t := 35) rfl
        have b5 := b1 0
        have HS := hide hS
        clear hS b1 b4
        gi_wp2
        refine collsOff (B := w.heap.size) (u := .returning) (by simp) _ _ (HCL.out.keep (fun _ _ _ h _ => h)) ?_
        intro w' c1 c2 c3 c4 c5 c6
        have hSw := (HS.out.sub (l := [keIt (w.heap.size + 1) k l]) (by simp)).closed (B := w.heap.size) (fun i hi => by
          simp only [List.mem_cons, List.not_mem_nil, or_false] at hi
          rcases hi with rfl
          exact Tame.row _ _ _ _ _ _ _) (Nat.le_refl _) c1 c2 c3 c4 c5 c6
        refine ⟨.slice (some ⟨w.heap.size + 1, 0, none⟩) k k, by simp [results, Try.f95, go_sem], ?_⟩
        exact ⟨some ⟨w.heap.size + 1, 0, none⟩, k, rfl, l, HI.out, hSw⟩
end Go.Proofs.Ytaajkldhnjoicaa

namespace Go.Proofs.Ytaajkldhnjoicaa

def pt (gs : List (List Val)) (vs : List Val) (n : Nat) (p : Nat → Bool) (j : Nat) : Int := cnt (tgts vs) j + sumN (fun x => if p x = true then cnt (tgts (fieldsI gs (x : Int))) j else 0) n
def ptl (gs : List (List Val)) (vs : List Val) (n : Nat) (p : Nat → Bool) : List Int := (List.range n).map fun j => pt gs vs n p j
def sp (l : List Int) (j : Nat) : Bool := decide (0 < l.getD j 0)
section
variable {gs : List (List Val)} {vs : List Val} {n : Nat}
theorem ptl_len (p : Nat → Bool) : (ptl gs vs n p).length = n := by simp [ptl]
theorem ptl_get (p : Nat → Bool) {j : Nat} (hj : j < n) : (ptl gs vs n p).getD j 0 = pt gs vs n p j := by
  rw [List.getD_eq_getElem?_getD]
  simp [ptl, hj]
theorem list_ext_getD {a b : List Int} (hl : a.length = b.length) (h : ∀ j, j < a.length → a.getD j 0 = b.getD j 0) : a = b := by
  refine List.ext_getElem hl fun j h1 h2 => ?_
  have := h j h1
  rwa [List.getD_eq_getElem?_getD, List.getD_eq_getElem?_getD, List.getElem?_eq_getElem h1, List.getElem?_eq_getElem h2] at this
theorem pt_congr {p q : Nat → Bool} (h : ∀ x, x < n → p x = q x) (j : Nat) : pt gs vs n p j = pt gs vs n q j := by
  unfold pt
  rw [sumN_congr fun x hx => by rw [h x hx]]
theorem ptl_congr {p q : Nat → Bool} (h : ∀ x, x < n → p x = q x) : ptl gs vs n p = ptl gs vs n q := by
  unfold ptl
  exact List.map_congr_left fun j _ => pt_congr h j
theorem CnI.eq {c l : List Int} (a : CnI gs vs n c n l) : l = ptl gs vs n (sp c) := by
  refine list_ext_getD (by rw [ptl_len]; exact a.len) fun j hj => ?_
  rw [a.len] at hj
  rw [ptl_get _ hj, a.at_ j hj]
  unfold pt
  congr 1
  refine sumN_congr fun x _ => ?_
  simp [sp]
theorem pt_pos (p : Nat → Bool) (j : Nat) : 0 < pt gs vs n p j ↔ (j : Int) ∈ tgts vs ∨ ∃ x, x < n ∧ p x = true ∧ (j : Int) ∈ tgts (fieldsI gs (x : Int)) := by
  have h0 := cnt_nonneg (tgts vs) j
  have hn : ∀ x, x < n → 0 ≤ (fun x => if p x = true then cnt (tgts (fieldsI gs (x : Int))) j else 0) x := fun x _ => by
    have := cnt_nonneg (tgts (fieldsI gs (x : Int))) j
    dsimp only
    split <;> omega
  have h1 := sumN_nonneg hn
  have h2 := sumN_pos hn
  have h3 := cnt_pos (tgts vs) j
  unfold pt
  constructor
  · intro h
    by_cases e : 0 < cnt (tgts vs) j
    · exact .inl (h3.1 e)
    · obtain ⟨x, hx, hp⟩ := h2.1 (by omega)
      by_cases e2 : p x = true
      · simp only [e2, if_true] at hp
        exact .inr ⟨x, hx, e2, (cnt_pos _ _).1 hp⟩
      · simp only [if_neg e2] at hp
        omega
  · rintro (h | ⟨x, hx, hp, hm⟩)
    · have := h3.2 h; omega
    · have := h2.2 ⟨x, hx, by simp only [hp, if_true]; exact (cnt_pos _ _).2 hm⟩
      omega
theorem sp_ptl (p : Nat → Bool) {j : Nat} (hj : j < n) : sp (ptl gs vs n p) j = true ↔ (j : Int) ∈ tgts vs ∨ ∃ x, x < n ∧ p x = true ∧ (j : Int) ∈ tgts (fieldsI gs (x : Int)) := by
  unfold sp
  rw [ptl_get p hj, decide_eq_true_iff, pt_pos]

/-- The numbers grow (u) or shrink. -/
structure Dir (gs : List (List Val)) (vs : List Val) (n : Nat) (u : Bool) (l : List Int) : Prop where
  len : l.length = n
  dir : ∀ j, j < n → sp l j = u → sp (ptl gs vs n (sp l)) j = u
theorem Dir.next {u : Bool} {l : List Int} (h : Dir gs vs n u l) : Dir gs vs n u (ptl gs vs n (sp l)) := by
  refine ⟨ptl_len _, fun j hj hu => ?_⟩
  cases u
  · rw [Bool.eq_false_iff] at hu ⊢
    intro h1
    rw [sp_ptl _ hj] at h1
    rw [Ne, sp_ptl _ hj] at hu
    refine hu ?_
    rcases h1 with h1 | ⟨x, hx, hp, hm⟩
    · exact .inl h1
    · refine .inr ⟨x, hx, ?_, hm⟩
      cases e : sp l x
      · rw [h.dir x hx e] at hp; cases hp
      · rfl
  · rw [sp_ptl _ hj] at hu ⊢
    rcases hu with h1 | ⟨x, hx, hp, hm⟩
    · exact .inl h1
    · exact .inr ⟨x, hx, h.dir x hx hp, hm⟩
def mu (gs : List (List Val)) (vs : List Val) (n : Nat) (u : Bool) (l : List Int) : Nat := 2 * (sumN (fun x => if sp l x = u then 0 else 1) n).toNat + if ptl gs vs n (sp l) = l then 0 else 1
theorem mu_le (u : Bool) (l : List Int) : mu gs vs n u l ≤ 2 * n + 1 := by
  have h := sumN_le (f := fun x => if sp l x = u then (0 : Int) else 1) (n := n) 1 (fun x _ => by split <;> omega)
  unfold mu
  split <;> omega
theorem Dir.less {u : Bool} {l : List Int} (h : Dir gs vs n u l) (hne : ptl gs vs n (sp l) ≠ l) : mu gs vs n u (ptl gs vs n (sp l)) < mu gs vs n u l := by
  unfold mu
  rw [if_neg hne]
  have hge : ∀ x, x < n → (fun x => if sp (ptl gs vs n (sp l)) x = u then (0 : Int) else 1) x ≤ (fun x => if sp l x = u then (0 : Int) else 1) x := fun x hx => by
    dsimp only
    by_cases e : sp l x = u
    · rw [if_pos e, if_pos (h.dir x hx e)]; exact Int.le_refl _
    · rw [if_neg e]; split <;> omega
  have hm := sumN_mono hge
  have h0 := sumN_nonneg (f := fun x => if sp (ptl gs vs n (sp l)) x = u then (0 : Int) else 1) (n := n) (fun x _ => by split <;> omega)
  by_cases hs : ∀ x, x < n → sp (ptl gs vs n (sp l)) x = sp l x
  · rw [if_pos (ptl_congr hs)]
    omega
  · obtain ⟨x, hx⟩ := Classical.not_forall.1 hs
    obtain ⟨hx1, hx2⟩ := Classical.not_imp.1 hx
    have hd := (sumN_pos (f := fun x => (fun x => if sp l x = u then (0 : Int) else 1) x - (fun x => if sp (ptl gs vs n (sp l)) x = u then (0 : Int) else 1) x) (n := n) (fun y hy => by have := hge y hy; dsimp only at this ⊢; omega)).2 ⟨x, hx1, by
      dsimp only
      by_cases e : sp l x = u
      · exact absurd ((h.dir x hx1 e).trans e.symm) hx2
      · rw [if_neg e, if_pos (by revert hx2 e; cases sp l x <;> cases sp (ptl gs vs n (sp l)) x <;> cases u <;> simp)]
        omega⟩
    rw [sumN_sub] at hd
    have : ∀ (A B : Int), 0 ≤ A → 0 < B - A → 2 * A.toNat + 1 < 2 * B.toNat + 1 := fun A B h1 h2 => by omega
    split
    · have := this _ _ h0 hd; omega
    · exact this _ _ h0 hd
theorem rep_sp (i : Int) (j : Nat) (hj : j < n) : sp (List.replicate n i) j = decide (0 < i) := by
  unfold sp
  rw [List.getD_eq_getElem?_getD]
  simp [hj]
theorem Dir.least : Dir gs vs n true (List.replicate n 0) := ⟨by simp, fun j hj h => by rw [rep_sp _ _ hj] at h; simp at h⟩
theorem Dir.greatest : Dir gs vs n false (List.replicate n 1) := ⟨by simp, fun j hj h => by rw [rep_sp _ _ hj] at h; simp at h⟩

/-- What comes of the numbers, again and again. -/
inductive Ran (gs : List (List Val)) (vs : List Val) (n : Nat) (i : Int) : List Int → Prop
  | zero : Ran gs vs n i (List.replicate n i)
  | step (l : List Int) : Ran gs vs n i l → Ran gs vs n i (ptl gs vs n (sp l))
theorem Ran.len {i : Int} {l : List Int} (h : Ran gs vs n i l) : l.length = n := by
  cases h
  · simp
  · exact ptl_len _
theorem lev_rng (hg : ∀ x : Int, ValsOk n (fieldsI gs x)) (hv : ValsOk n vs) {k : Nat} {x : Int} (h : Lev gs vs k x) : 0 ≤ x ∧ x < (n : Int) := by
  cases h with
  | root i hi => exact hv _ hi rfl
  | step k i j h hj => exact hg i _ hj rfl
theorem Ran.lev {l : List Int} (h : Ran gs vs n 0 l) : ∀ j : Nat, j < n → sp l j = true → ∃ k, Lev gs vs k (j : Int) := by
  induction h with
  | zero => intro j hj h; rw [rep_sp _ _ hj] at h; simp at h
  | step l _ ih =>
    intro j hj h
    rw [sp_ptl _ hj] at h
    rcases h with h | ⟨x, hx, hp, hm⟩
    · exact ⟨0, .root _ (tgts_mem.1 h)⟩
    · obtain ⟨k, hk⟩ := ih x hx hp
      exact ⟨k + 1, .step k _ _ hk (tgts_mem.1 hm)⟩
theorem fix_lev (hg : ∀ x : Int, ValsOk n (fieldsI gs x)) (hv : ValsOk n vs) {l : List Int} (h : ptl gs vs n (sp l) = l) {k : Nat} {x : Int} (hk : Lev gs vs k x) : sp l x.toNat = true := by
  induction hk with
  | root i hi =>
    obtain ⟨h0, h1⟩ := hv _ hi rfl
    dsimp only at h0 h1
    rw [← h, sp_ptl _ (by omega), show ((i.toNat : Nat) : Int) = i from by omega]
    exact .inl (tgts_mem.2 hi)
  | step k i j hk hj ih =>
    obtain ⟨h0, h1⟩ := hg i _ hj rfl
    dsimp only at h0 h1
    obtain ⟨h2, h3⟩ := lev_rng hg hv hk
    rw [← h, sp_ptl _ (by omega), show ((j.toNat : Nat) : Int) = j from by omega]
    exact .inr ⟨i.toNat, by omega, ih, by rw [show ((i.toNat : Nat) : Int) = i from by omega]; exact tgts_mem.2 hj⟩
theorem least_is (hgl : gs.length = n) (hg : ∀ x : Int, ValsOk n (fieldsI gs x)) (hgs : ∀ fs ∈ gs, ValsOk gs.length fs) (hv : ValsOk n vs) {l : List Int} (h : Ran gs vs n 0 l) (hf : ptl gs vs n (sp l) = l) : l = ptl gs vs n fun x => decide ((x : Int) ∈ reachR gs vs) := by
  have hv2 : ValsOk gs.length vs := by rw [hgl]; exact hv
  rw [← hf]
  refine ptl_congr fun x hx => ?_
  rw [Bool.eq_iff_iff, decide_eq_true_iff, mem_reachR hgs hv2]
  constructor
  · exact h.lev x hx
  · rintro ⟨k, hk⟩
    exact fix_lev hg hv hf hk

/-- A set of which everybody is pointed at. -/
def Post (gs : List (List Val)) (vs : List Val) (n : Nat) (p : Nat → Bool) : Prop := ∀ j, j < n → p j = true → 0 < pt gs vs n p j
theorem pt_mono {p q : Nat → Bool} (h : ∀ x, x < n → p x = true → q x = true) {j : Nat} (hp : 0 < pt gs vs n p j) : 0 < pt gs vs n q j := by
  rw [pt_pos] at hp ⊢
  rcases hp with hp | ⟨x, hx, hp, hm⟩
  · exact .inl hp
  · exact .inr ⟨x, hx, h x hx hp, hm⟩
theorem Post.ran {p : Nat → Bool} (hp : Post gs vs n p) {l : List Int} (h : Ran gs vs n 1 l) : ∀ j, j < n → p j = true → sp l j = true := by
  induction h with
  | zero => intro j hj _; rw [rep_sp _ _ hj]; rfl
  | step l _ ih =>
    intro j hj h
    unfold sp
    rw [ptl_get _ hj, decide_eq_true_iff]
    exact pt_mono ih (hp j hj h)
theorem Post.fix {l : List Int} (hf : ptl gs vs n (sp l) = l) : Post gs vs n (sp l) := fun j hj h => by
  rw [← ptl_get _ hj, hf]
  simpa [sp] using h
/-- What the reference has left: everybody in a set of that kind, and it is one. -/
structure Gst (gs : List (List Val)) (vs : List Val) (n : Nat) (p : Nat → Bool) : Prop where
  post : Post gs vs n p
  most : ∀ q, Post gs vs n q → ∀ j, j < n → q j = true → p j = true
theorem Gst.is {p : Nat → Bool} (hp : Gst gs vs n p) {l : List Int} (h : Ran gs vs n 1 l) (hf : ptl gs vs n (sp l) = l) : l = ptl gs vs n p := by
  rw [← hf]
  refine ptl_congr fun x hx => ?_
  rw [Bool.eq_iff_iff]
  exact ⟨hp.most _ (Post.fix hf) x hx, hp.post.ran h x hx⟩

/-! The reference's turns. -/
def szP (n : Nat) (p : Nat → Bool) : Int := sumN (fun x => if p x = true then 1 else 0) n
structure GsI (gs : List (List Val)) (vs : List Val) (n t : Nat) (p : Nat → Bool) : Prop where
  most : ∀ q, Post gs vs n q → ∀ j, j < n → q j = true → p j = true
  way : Post gs vs n p ∨ szP n p + (t : Int) ≤ (n : Int)
structure GsJ (gs : List (List Val)) (vs : List Val) (n t j : Nat) (p : Nat → Bool) : Prop where
  most : ∀ q, Post gs vs n q → ∀ j, j < n → q j = true → p j = true
  way : Post gs vs n p ∨ ((∀ i, i < j → p i = true → 0 < pt gs vs n p i) ∧ szP n p + (t : Int) ≤ (n : Int)) ∨ szP n p + (t : Int) + 1 ≤ (n : Int)
def offP (p : Nat → Bool) (j : Nat) : Nat → Bool := fun x => p x && !(x == j)
theorem GsI.start {p : Nat → Bool} (h : ∀ x, x < n → p x = true) : GsI gs vs n 0 p :=
  ⟨fun _ _ j hj _ => h j hj, .inr (by
    have h1 := sumN_le (f := fun x => if p x = true then (1 : Int) else 0) (n := n) 1 (fun x _ => by split <;> omega)
    unfold szP; omega)⟩
theorem GsI.in_ {t : Nat} {p : Nat → Bool} (h : GsI gs vs n t p) : GsJ gs vs n t 0 p := ⟨h.most, h.way.elim .inl fun h => .inr (.inl ⟨fun i hi => by omega, h⟩)⟩
theorem GsJ.out {t : Nat} {p : Nat → Bool} (h : GsJ gs vs n t n p) : GsI gs vs n (t + 1) p := ⟨h.most, by
  rcases h.way with h1 | ⟨h1, _⟩ | h1
  · exact .inl h1
  · exact .inl h1
  · exact .inr (by omega)⟩
theorem GsI.done {p : Nat → Bool} (h : GsI gs vs n n p) : Gst gs vs n p := ⟨by
  rcases h.way with h1 | h1
  · exact h1
  · intro j hj hp
    have hn : ∀ x, x < n → 0 ≤ (fun x => if p x = true then (1 : Int) else 0) x := fun x _ => by dsimp only; split <;> omega
    have := (sumN_pos hn).2 ⟨j, hj, by simp [hp]⟩
    unfold szP at h1
    omega, h.most⟩
theorem GsJ.stay {t j : Nat} {p : Nat → Bool} (h : GsJ gs vs n t j p) (hp : 0 < pt gs vs n p j) : GsJ gs vs n t (j + 1) p := ⟨h.most, by
  rcases h.way with h1 | ⟨h1, h2⟩ | h1
  · exact .inl h1
  · refine .inr (.inl ⟨fun i hi hpi => ?_, h2⟩)
    by_cases e : i = j
    · subst e; exact hp
    · exact h1 i (by omega) hpi
  · exact .inr (.inr h1)⟩
theorem GsJ.off {t j : Nat} {p : Nat → Bool} (h : GsJ gs vs n t j p) (hj : j < n) (hp : pt gs vs n p j = 0) : GsJ gs vs n t (j + 1) (offP p j) := by
  have hoff : ∀ x, offP p j x = true ↔ p x = true ∧ x ≠ j := fun x => by simp [offP]
  refine ⟨fun q hq i hi hqi => ?_, ?_⟩
  · rw [hoff]
    refine ⟨h.most q hq i hi hqi, ?_⟩
    rintro rfl
    have := pt_mono (h.most q hq) (hq i hi hqi)
    omega
  · by_cases hpj : p j = true
    · have hsz : szP n (offP p j) + 1 = szP n p := by
        unfold szP
        have h1 := sumN_upd (f := fun x => if offP p j x = true then (1 : Int) else 0) (g := fun x => if p x = true then (1 : Int) else 0) (n := n) (i := j) hj (fun x _ hx => by
          by_cases e : p x = true
          · rw [if_pos e, if_pos ((hoff x).2 ⟨e, hx⟩)]
          · rw [if_neg e, if_neg (fun h => e ((hoff x).1 h).1)])
        rw [if_pos hpj, if_neg (fun h => ((hoff j).1 h).2 rfl)] at h1
        omega
      rcases h.way with h1 | ⟨h1, h2⟩ | h1
      · have := h1 j hj hpj; omega
      · exact .inr (.inr (by omega))
      · exact .inr (.inr (by omega))
    · have e : offP p j = p := by
        funext x
        unfold offP
        by_cases e : x = j
        · subst e; simp at hpj; simp [hpj]
        · simp [e]
      rw [e]
      rcases h.way with h1 | ⟨h1, h2⟩ | h1
      · exact .inl h1
      · refine .inr (.inl ⟨fun i hi hpi => ?_, h2⟩)
        by_cases e : i = j
        · subst e; exact absurd hpi hpj
        · exact h1 i (by omega) hpi
      · exact .inr (.inr h1)
end
end Go.Proofs.Ytaajkldhnjoicaa

namespace Go.Proofs.Ytaajkldhnjoicaa
open Go.RowKit

theorem raddr0 (g j : Nat) : (⟨g, 0, none⟩ : Addr).add j = ⟨g, j, none⟩ := by
  unfold Addr.add; split <;> simp_all


set_option maxHeartbeats 6400000 in
theorem rmul64 (w : World) (N : Nat) (h1 : N ≤ 24) :
    Calls Try.prog 159 #[.int .u64 1, .int .u64 N] w fun e w' => e = .returned (.tuple #[.int .u64 0, .int .u64 N]) ∧ w' = w := by
  rcases (show N = 0 ∨ N = 1 ∨ N = 2 ∨ N = 3 ∨ N = 4 ∨ N = 5 ∨ N = 6 ∨ N = 7 ∨ N = 8 ∨ N = 9 ∨ N = 10 ∨ N = 11 ∨ N = 12 ∨ N = 13 ∨ N = 14 ∨ N = 15 ∨ N = 16 ∨ N = 17 ∨ N = 18 ∨ N = 19 ∨ N = 20 ∨ N = 21 ∨ N = 22 ∨ N = 23 ∨ N = 24 from by omega) with rfl | rfl | rfl | rfl | rfl | rfl | rfl | rfl | rfl | rfl | rfl | rfl | rfl | rfl | rfl | rfl | rfl | rfl | rfl | rfl | rfl | rfl | rfl | rfl | rfl
  all_goals
    go_enter Try.func159, Try.ntmps159
    go_wp2_with fail
    refine bodyPost_ret (v := .tuple #[.int .u64 0, _]) (by simp [results, Try.results159, go_sem]; rfl) rfl ⟨rfl, rfl⟩

set_option maxHeartbeats 1600000 in
theorem rmul_any (w : World) (N : Nat) (h1 : N ≤ 24) :
    Calls Try.prog 143 #[.int .u64 1, .int .u64 N] w fun e w' => e = .returned (.tuple #[.int .u64 0, .int .u64 N]) ∧ w' = w := by
  go_enter Try.func143, Try.ntmps143
  go_wp2_with fail
  refine (rmul64 w N h1).mono ?_
  rintro e w1 ⟨rfl, rfl⟩
  go_wp2_with fail
  refine bodyPost_ret (v := .tuple #[.int .u64 0, .int .u64 N]) (by simp [results, Try.results143, go_sem]) rfl ⟨rfl, rfl⟩

theorem rblk_of_row {w : World} {base g t n : Nat} {xs : List Value} (h : w.ownsRow base t 1 (.slice (some ⟨g, 0, none⟩) n n) n xs) : Blk w g t xs.toArray := by
  obtain ⟨h1, h2⟩ := h
  rcases h2 with ⟨h0, _⟩ | ⟨g', cap', cur, hv, hg, hh, hn, hcap, hsz, htake⟩
  · cases h0
  · cases hv
    have : xs.toArray = cur := by
      rw [← htake, List.take_of_length_le (by simp [hsz])]
    rw [this]; exact hh

theorem rzInt : (Try.prog.info? 3).map (fun i => (i.zero, i.size, i.bytes)) = some (some (.int .i64 0), 1, 8) := by kernel_rfl
theorem rzInt1 : (Try.prog.info? 3).map (·.size) = some 1 := by kernel_rfl
theorem rmadeInts (n : Nat) : (madeCells (Value.cells (.int .i64 0)) (n * 1)).toList = ints (List.replicate n 0) := by
  apply List.ext_getElem
  · simp [madeCells, ints]
  · intro i h1 h2
    simp [madeCells, Value.cells, ints, Nat.mod_one]
def rrow (v0 : Int) (N i : Nat) : List Value := ints (List.replicate i v0 ++ List.replicate (N - i) 0)

theorem rrow_length (v0 : Int) (N i : Nat) (h : i ≤ N) : (rrow v0 N i).length = N := by
  simp [rrow, ints]; omega
theorem rrow_at (v0 : Int) (N i j m : Nat) (hm : m ≤ i) (v : Value) (hv : (ints (List.replicate m v0))[j]? = some v) : (rrow v0 N i)[j]? = some v := by
  have hj : j < m := by
    have := (List.getElem?_eq_some_iff.1 hv).1
    simpa [ints] using this
  rw [← hv]
  have hj2 : j < i := by omega
  simp [rrow, ints, List.getElem?_append, List.getElem?_replicate, hj, hj2]

theorem rrow_next (v0 : Int) (N i m : Nat) (h : i + m ≤ N) : (rrow v0 N i).toArray.toList.take i ++ (ints (List.replicate m v0) ++ (rrow v0 N i).toArray.toList.drop (i + m)) = rrow v0 N (i + m) := by
  obtain ⟨r, rfl⟩ : ∃ r, N = i + m + r := ⟨N - (i + m), by omega⟩
  have e1 : i + m + r - i = m + r := by omega
  have e2 : i + m + r - (i + m) = r := by omega
  unfold rrow ints
  rw [e1, e2, List.map_append, List.map_append, List.map_replicate, List.map_replicate, List.map_replicate, List.map_replicate, List.map_replicate]
  simp [List.drop_append]
  rw [← List.append_assoc, List.replicate_append_replicate]
set_option maxHeartbeats 1600000 in
set_option maxRecDepth 100000 in
theorem repeat_pos (w : World) (v0 : Int) (N g0 : Nat) (h1 : 1 ≤ N) (h4 : N ≤ 24) (h : Blk w g0 3 #[.int .i64 v0]) :
    Calls Try.prog 128 #[.slice (some ⟨g0, 0, none⟩) 1 1, .int .i64 N] w fun e w' => ∃ A c, e = .returned (.slice A N c) ∧ Sep No w w' [rowI 3 1 A N c (ints (List.replicate N v0))] := by
  have C := hide (rmul_any w N h4)
  go_enter Try.func128, Try.ntmps128
  go_wp2_with fail
  refine C.out.mono ?_
  rintro e w0 ⟨rfl, rfl⟩
  have hN : decide ((9223372036854775807 : Int) < N) = false := by simp; omega
  go_wp2_with (first
    | (refine wpList_make rfl (.tmp 29) (.tmp 29) 35 rfl (Sep.nil No w0) Try.underlying35 rzInt (by omega) .i64 .i64 N rfl rfl (by omega) ?_
       intro w1 hS1 hb1
       rw [rmadeInts] at hS1
       (have hB1 : Blk w1 w0.heap.size 3 (ints (List.replicate N 0)).toArray := rblk_of_row (base := 0) (n := N) (hS1.get 0 rfl))
       have hG1 := h.below_ hb1)
    | (refine wpList_copy_splice rfl (.tmp 31) (.tmp 32) 35 35 rfl 3 Try.underlying35 rzInt1 (some ⟨w0.heap.size, 0, none⟩) (some ⟨g0, 0, none⟩) N N 1 1 rfl rfl w0.heap.size 0 (ints (List.replicate N 0)) 3 hB1 [.int .i64 v0] (by simp [Nat.min_eq_left h1]) (fun _ => ⟨rfl, _, rfl, fun j v hv => by
          rcases j with _ | j
          · simp at hv; subst hv; rw [raddr0, hG1.cell]; rfl
          · simp at hv⟩) (by simp [ints]; omega) (by simp [Value.oneCell']) w0.heap.size w0 hb1 (Nat.le_refl _) ?_
       intro w2 hg2 hb2))
  have hB2 : Blk w2 w0.heap.size 3 (rrow v0 N 1).toArray := by
    have e : splice (ints (List.replicate N 0)) 0 [.int .i64 v0] = rrow v0 N 1 := by
      obtain ⟨m, rfl⟩ : ∃ m, N = m + 1 := ⟨N - 1, by omega⟩
      simp [splice, rrow, ints, List.replicate_succ]
    rw [← e]; exact hg2.out
  clear hg2 hG1 hB1 hb1 hS1 C
  go_loopw [8] (fun v wr => ∃ i : Nat, 1 ≤ i ∧ i ≤ N ∧ v = .int .i64 i ∧ Blk wr w0.heap.size 3 (rrow v0 N i).toArray ∧ Below w0.heap.size w0 wr) (fun v _ => N - (intOf v).toNat)
  case atStart => exact ⟨1, by omega, by omega, rfl, hB2, hb2⟩
  case round =>
    obtain ⟨i, hi1, hi2, rfl, hB, hb⟩ := hrel
    clear hB2 hb2
    by_cases hlt : i < N
    · obtain ⟨m, hm⟩ : ∃ m, m = Nat.min i (N - i) := ⟨_, rfl⟩
      have hm1 : 1 ≤ m := by rw [hm]; exact Nat.le_min.2 ⟨hi1, by omega⟩
      have hm2 : m ≤ i := by rw [hm]; exact Nat.min_le_left _ _
      have hm3 : m ≤ N - i := by rw [hm]; exact Nat.min_le_right _ _
      have hat : ∀ j v, (ints (List.replicate m v0))[j]? = some v → wr.drew.cell? ((⟨w0.heap.size, 0, none⟩ : Addr).add j) = some v := by
        intro j v hv
        rw [raddr0, hB.drew.cell]
        simpa using rrow_at v0 N i j m hm2 v hv
      have hni : ¬ N = i := by omega
      have hrun := run_copy_row (P := Try.prog) (w := wr.drew) 35 35 3 3 w0.heap.size i (N - i) (N - i) ⟨w0.heap.size, 0, none⟩ i N (rrow v0 N i).toArray 3 (ints (List.replicate m v0)) Try.underlying35 rzInt1 hB.drew (by simpa [ints] using hm) hat (by
        show _ ≤ (rrow v0 N i).toArray.size
        rw [List.size_toArray, rrow_length _ _ _ hi2]; simp [ints]; omega) (by intro v hv; simp [ints] at hv; rw [hv.2]; rfl)
      have hlen : (ints (List.replicate m v0)).length = m := by simp [ints]
      rw [hlen, List.append_assoc, show goInt (m : Int) = .int .i64 m from rfl] at hrun
      have hg3 := setRow_heap wr.drew w0.heap.size _ ((rrow v0 N i).toArray.toList.take i ++ (ints (List.replicate m v0) ++ (rrow v0 N i).toArray.toList.drop (i + m))).toArray 3 _ hB.drew
      have hb3 := below_setRow (g := w0.heap.size) hb.drew (Nat.le_refl _) ((rrow v0 N i).toArray.toList.take i ++ (ints (List.replicate m v0) ++ (rrow v0 N i).toArray.toList.drop (i + m))).toArray
      obtain ⟨w3, hw3⟩ : ∃ w3, w3 = wr.drew.setRow w0.heap.size ((rrow v0 N i).toArray.toList.take i ++ (ints (List.replicate m v0) ++ (rrow v0 N i).toArray.toList.drop (i + m))).toArray := ⟨_, rfl⟩
      rw [← hw3] at hrun hg3 hb3
      have hB3 : Blk w3 w0.heap.size 3 (rrow v0 N (i + m)).toArray := by
        have e : (rrow v0 N i).toArray.toList.take i ++ (ints (List.replicate m v0) ++ (rrow v0 N i).toArray.toList.drop (i + m)) = rrow v0 N (i + m) := by
          exact rrow_next v0 N i m (by omega)
        rw [← e]; exact hg3
      have HB3 := hide hB3
      have HBb3 := hide hb3
      clear hat hm hB hb hg3 hb3 hw3 hB3 hlen
      go_wp2_with fail
      go_region_law (fail)
      all_goals
        go_simp
        have hw : IntKind.i64.wrap ((i : Int) + m) = ((i + m : Nat) : Int) := by
          simp only [IntKind.wrap, IntKind.bits, IntKind.signed]
          go_num
        rw [hw]
        go_roundw
        case rel => exact ⟨_, _, _, _, _, _, _, _, _, _, _, _, _, _, ⟨i + m, by omega, by omega, rfl, HB3.out, HBb3.out⟩, rfl⟩
        case measure => simp [intOf]; omega
    · obtain rfl : i = N := by omega
      go_wp2_with fail
      go_ret
      refine ⟨_, _, rfl, ?_⟩
      have e : rrow v0 i i = ints (List.replicate i v0) := by simp [rrow]
      rw [e] at hB
      have hS := (Sep.nil No w0).consNew (w' := wr) hb (blkI w0.heap.size 3 (ints (List.replicate i v0)).toArray) hB (fun g hg => by rw [show g = w0.heap.size from hg]; exact Nat.le_refl _)
      have hrow := rowI_of_blk (n := i) (size := 1) (hS.get 0 rfl) (by simp [ints]) (by unfold maxLen; omega)
      exact hS.step 0 rfl (Chg.refl _ wr) _ hrow (fun g hg => .inl (show g = w0.heap.size from by
        have : w0.heap.size = g := by simpa [rowI, Value.ownBlock] using hg
        exact this.symm))

set_option maxHeartbeats 1600000 in
set_option maxRecDepth 100000 in
theorem repeat_zero (w : World) (v0 : Int) (g0 : Nat) (h : Blk w g0 3 #[.int .i64 v0]) :
    Calls Try.prog 128 #[.slice (some ⟨g0, 0, none⟩) 1 1, .int .i64 0] w fun e w' => ∃ A c, e = .returned (.slice A 0 c) ∧ Sep No w w' [rowI 3 1 A 0 c []] := by
  have C := hide (rmul_any w 0 (by omega))
  have hmk : ∀ w : World, (Instr.makeSlice 35 (.int .i64 0) (.int .i64 0)).run Try.prog w = .ok (.slice (some ⟨w.heap.size, 0, none⟩) 0 0) (w.alloc (.cells #[] 3)) := fun w => by kernel_rfl
  have hcp : ∀ (W : World) (g : Nat), (Builtin.copy_ #[35, 35] 3 #[.slice (some ⟨g, 0, none⟩) 0 0, .slice (some ⟨g0, 0, none⟩) 1 1]).run Try.prog W = .ok (.int .i64 0) W := fun W g => by kernel_rfl
  go_enter Try.func128, Try.ntmps128
  go_wp2_with fail
  refine C.out.mono ?_
  rintro e w0 ⟨rfl, rfl⟩
  go_wp2_with fail
  go_loop [8] (fun v => v = .int .i64 0) (fun _ => 0)
  case atStart => rfl
  case round =>
    subst hrel
    go_wp2_with fail
    go_ret
    exact ⟨some ⟨w0.heap.size, 0, none⟩, 0, rfl, ((Sep.nil No w0).blkAt 3 #[] rfl).step 0 rfl (Chg.refl _ _) (rowI 3 1 (some ⟨w0.heap.size, 0, none⟩) 0 0 []) (by
      have h := rowI_of_blk (n := 0) (size := 1) (Blk.new w0 3 #[]) rfl (by unfold maxLen; omega)
      exact h) (fun g hg => .inl (show g = w0.heap.size from by
        have : w0.heap.size = g := by simpa [rowI, Value.ownBlock] using hg
        exact this.symm))⟩
theorem repeat_any (w : World) (v0 : Int) (N g0 : Nat) (h4 : N ≤ 24) (h : Blk w g0 3 #[.int .i64 v0]) :
    Calls Try.prog 128 #[.slice (some ⟨g0, 0, none⟩) 1 1, .int .i64 N] w fun e w' => ∃ A c, e = .returned (.slice A N c) ∧ Sep No w w' [rowI 3 1 A N c (ints (List.replicate N v0))] := by
  rcases Nat.eq_zero_or_pos N with rfl | h1
  · exact repeat_zero w v0 g0 h
  · exact repeat_pos w v0 N g0 h1 h4 h
end Go.Proofs.Ytaajkldhnjoicaa
