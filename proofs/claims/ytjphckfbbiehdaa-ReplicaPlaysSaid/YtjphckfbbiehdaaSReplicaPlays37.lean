/- The reference of a memory that is copied: a step, where no change waits. A region that draws its order: loads are taken first, and its last operation, for which all others wait, may write what they read. -/
import Derived.Test.YtjphckfbbiehdaaSReplicaPlays36
import Derived.OrdersHeld
import Derived.StillTail
import Derived.Deep.RegionHeld
set_option linter.unusedSimpArgs false
set_option linter.unusedVariables false
namespace Go.Proofs.Ytjphckfbbiehdaa
open Go.RowKit
theorem find_yes {α : Type} {p : α → Bool} {l : List α} {k : Nat} (hk : k < l.length) (h : ∀ v ∈ l.take k, p v = false) (hv : p l[k] = true) : l.find? p = some l[k] := by
  have e : l = l.take k ++ l[k] :: l.drop (k + 1) := by rw [← List.drop_eq_getElem_cons hk, List.take_append_drop]
  have h1 : (l.take k).find? p = none := List.find?_eq_none.2 fun v hm => by rw [h v hm]; simp
  have h2 : (l.take k ++ l[k] :: l.drop (k + 1)).find? p = some l[k] := by
    rw [List.find?_append, h1, Option.none_or, List.find?_cons, hv]
  rw [← e] at h2
  exact h2
theorem find_no {α : Type} {p : α → Bool} {l : List α} (h : ∀ v ∈ l, p v = false) : l.find? p = none := List.find?_eq_none.2 fun v hm => by rw [h v hm]; simp
theorem rq_cop_id {r : RqA} {v : Val} (h : (v.1 && !decide (v.2 ∈ r.made)) = false) : r.cop v = r := by
  unfold RqA.cop
  rw [if_pos]
  cases hb : v.1 with
  | false => exact .inl rfl
  | true => rw [hb] at h; exact .inr (by simpa using h)
theorem rcop_len (r : RqA) (v : Val) : (r.cop v).made.length ≤ r.made.length + 1 := by
  unfold RqA.cop
  split
  · exact Nat.le_succ _
  · show (r.made ++ [v.2]).length ≤ _
    rw [List.length_append]; simp
theorem rfold_len (l : List Val) : ∀ r : RqA, (l.foldl RqA.cop r).made.length ≤ r.made.length + l.length ∧ (l.foldl RqA.cop r).filled = r.filled ∧ (l.foldl RqA.cop r).σ = r.σ := by
  induction l with
  | nil => exact fun r => ⟨Nat.le_refl _, rfl, rfl⟩
  | cons v l ih =>
    intro r
    obtain ⟨h1, h2, h3⟩ := ih (r.cop v)
    have h4 := rcop_len r v
    obtain ⟨k1, _, k3, _⟩ := rcop_keep r v
    exact ⟨by rw [List.foldl_cons, List.length_cons]; omega, h2.trans k3, h3.trans k1⟩
theorem ints_at2 {w : World} {n c : Nat} {A : Option Addr} {l : List Int} (h : (rowI 3 1 A n c (ints l)).P w) {k : Nat} (hk : k < l.length) : ∃ g, A = some ⟨g, 0, none⟩ ∧ g < w.heap.size ∧ w.cell? ⟨g, k, none⟩ = some (.int .i64 l[k]) := by
  have hrow : w.ownsRow 0 3 1 (.slice A n c) n (ints l) := h
  have hl : l.length = n := by have := hrow.1; simpa [ints] using this
  obtain ⟨g, hA⟩ := hown_addr hrow (by omega)
  subst hA
  refine ⟨g, rfl, (rowI 3 1 (some ⟨g, 0, none⟩) n c (ints l)).dom w h g rfl, ?_⟩
  rw [hrow.cellAt k (by omega)]
  simp [ints, List.getElem?_eq_getElem hk]
theorem rq_field {Bm : Nat} {m : RMem} {X : World} (hP : (rmI Bm m).P X) {z k : Nat} (hz : z < m.obs.length) {fs : List Val} {oA : Option Addr} (e1 : m.obs[z].fields = fs) (e2 : m.obs[z].A = oA) (hk : k < fs.length) : ∃ g2, oA = some ⟨g2, 0, none⟩ ∧ X.cell? ⟨g2, k * 2, none⟩ = some (.bool fs[k].1) ∧ X.cell? ⟨g2, k * 2 + 1, none⟩ = some (.int .i64 fs[k].2) ∧ g2 < X.heap.size := by
  subst e1
  subst e2
  obtain ⟨g2, a, b, c, -, -, d⟩ := rm_field hP hz hk
  exact ⟨g2, a, b, c, d⟩
theorem rq_fl {F : Nat → Prop} {W0 w : World} {Bc : Nat} {t : RqT} {x : Item} (h : Sep F W0 w (x :: rqR Bc t)) (n : Nat) : Sep F W0 (w.setCell ⟨Bc, 3, none⟩ (.int .i64 (n : Int))) (x :: rqR Bc { t with filled := n }) :=
  h.set_ 2 (g := Bc) (t := 194) rfl 3 (.int .i64 (n : Int))
def RqT.fp (t : RqT) : RqT := { t with Ar := t.Am, cr := t.cm, row := t.made, Am := none, cm := 0, made := [], filled := 0, times := t.times + 1 }
theorem rq_flip {F : Nat → Prop} {W0 w : World} {Bc : Nat} {t : RqT} {x : Item} (h : Sep F W0 w (x :: rqR Bc t)) :
    Sep F W0 ((((w.setCell ⟨Bc, 1, none⟩ (.slice t.Am t.made.length t.cm)).setCell ⟨Bc, 2, none⟩ (.slice none 0 0)).setCell ⟨Bc, 3, none⟩ (.int .i64 0)).setCell ⟨Bc, 6, none⟩ (.int .i64 ((t.times + 1 : Nat) : Int))) (x :: rqR Bc t.fp) := by
  have h1 := (((h.set_ 2 (g := Bc) (t := 194) rfl 1 (.slice t.Am t.made.length t.cm)).set_ 2 (g := Bc) (t := 194) rfl 2 (.slice none 0 0)).set_ 2 (g := Bc) (t := 194) rfl 3 (.int .i64 0)).set_ 2 (g := Bc) (t := 194) rfl 6 (.int .i64 ((t.times + 1 : Nat) : Int))
  have h2 := h1.sub (l := [x, rmI t.Bm t.m, blkI Bc 194 (rqC t.fp), rowI 3 1 t.Am t.made.length t.cm (ints t.made), sufI 3 1 t.Ao t.log.length t.co (log1 t.log), sufI 3 1 t.Af t.log.length t.cf (log2 t.log)]) (by
    exact List.Sublist.cons_cons _ (List.Sublist.cons_cons _ (List.Sublist.cons_cons _ (List.Sublist.cons _ (List.Sublist.refl _)))))
  have h3 := h2.nilRow0 3 1
  exact h3.perm (l := x :: rqR Bc t.fp) (List.perm_append_comm (l₁ := [_]) (l₂ := [_, _, _, _]) |>.append_right _)
set_option maxRecDepth 100000 in
set_option maxHeartbeats 16000000 in
theorem rqwork_rest {F : Nat → Prop} {W0 w : World} {Bc : Nat} {t : RqT} {x : Item} (h : Sep F W0 w (x :: rqR Bc t)) (ok : RqOk t.a) (hl : t.log = []) :
    Calls Try.prog 85 #[.pointer (some ⟨Bc, 0, none⟩)] w fun e w' => (∃ u, e = .returned u) ∧ ∃ t' : RqT, t'.a = t.a.work ∧ t'.m = t.m ∧ Sep F W0 w' (x :: rqR Bc t') := by
  obtain ⟨k0, -, -, -, k4, -, -, k7, k8⟩ := rq_cells (pre := [x]) h
  have hrm := rq_rm (pre := [x]) h
  obtain ⟨m0, -, -, -, -⟩ := rm_mem hrm
  have h8 : t.m.regs.length = 8 := ok.m.r8
  rw [hl] at k4
  rw [h8] at m0
  have hmx : Try.prog.follows .mixedOrders = true := by kernel_rfl
  have HOK := hide ok
  have HL := hide hl
  have HS := hide h
  have HWS := hide (show ∀ v, t.a.miss = some v → t.a.work = t.a.cop v from fun v hv => by
    unfold RqA.work
    rw [show t.a.log = [] from hl, hv])
  have HWF := hide (show t.a.miss = none → ∀ o, t.a.made[t.a.filled]? = some o → t.a.work = { (obA t.a.σ.objs o).foldl RqA.cop t.a with filled := t.a.filled + 1 } from fun hv o ho => by
    unfold RqA.work
    rw [show t.a.log = [] from hl, hv, ho])
  have HWN := hide (show t.a.miss = none → t.a.made[t.a.filled]? = none → t.a.work = { t.a with row := t.a.made, made := [], filled := 0, times := t.a.times + 1 } from fun hv ho => by
    have hla : t.a.log = [] := hl
    unfold RqA.work
    simp only [hla, hv, ho])
  obtain ⟨gr, hgr⟩ : ∃ q, t.m.gr = q := ⟨_, rfl⟩
  obtain ⟨cR, hcR⟩ : ∃ q, t.m.cR = q := ⟨_, rfl⟩
  rw [hgr, hcR] at m0
  have HGR := hide hgr
  clear h ok hl hrm h8 hgr hcR
  go_enter Try.func85, Try.ntmps85
  go_wp2_with fail
  go_loopw [70] (fun q wr => ∃ (k : Nat) (t' : RqT), k ≤ 8 ∧ q = .int .i64 k ∧ Hid (t'.a = t.a ∧ t'.m = t.m ∧ t'.Bm = t.Bm ∧ ∀ v ∈ t.m.regs.take k, (v.1 && !decide (v.2 ∈ t.a.made)) = false) ∧ Sep F W0 wr (x :: rqR Bc t')) (fun q _ => 8 - (intOf q).toNat)
  case atStart => exact ⟨0, t, by omega, rfl, ⟨rfl, rfl, rfl, fun v hv => by simp at hv⟩, HS.out⟩
  case round =>
    clear HS k0 k4 m0 k7 k8
    obtain ⟨k, t', hk, rfl, HI, hS⟩ := hrel
    obtain ⟨hab, hmm, hBm, hnot⟩ := HI.out
    by_cases hlt : k < 8
    · have hkl : k < t.m.regs.length := by rw [show t.m.regs.length = 8 from HOK.out.m.r8]; exact hlt
      obtain ⟨r0, r1, -, -, r4⟩ := rm_reg (rq_rm (pre := [x]) hS) (by rw [hmm]; exact HOK.out.m.r8) k hlt
      rw [hmm, HGR.out] at r0 r1 r4
      have hrg : rgA t.m.regs (k : Int) = t.m.regs[k] := by unfold rgA; rw [Int.toNat_natCast, List.getD_eq_getElem?_getD, List.getElem?_eq_getElem hkl]; rfl
      rw [hrg] at r0 r1
      have hT := List.take_succ_eq_append_getElem hkl
      have HY := hide (fun (h : (fun v : Val => v.1 && !decide (v.2 ∈ t.a.made)) t.m.regs[k] = true) => find_yes (p := fun v : Val => v.1 && !decide (v.2 ∈ t.a.made)) hkl hnot h)
      have HNT := hide hnot
      obtain ⟨v, hv⟩ : ∃ v, t.m.regs[k] = v := ⟨_, rfl⟩
      rw [hv] at r0 r1 hT HY
      have C := rqcopied_any (hS.alloc (.cells #[.bool v.1, .int .i64 v.2] 107)) v (by have h1 := HOK.out.ml; rw [← hab] at h1; rw [show t'.a.made.length = t'.made.length from rfl] at h1; omega)
      rw [show t'.made = t.a.made from congrArg RqA.made hab, hab] at C
      obtain ⟨b, hb⟩ : ∃ b, (v.1 && !decide (v.2 ∈ t.a.made)) = b := ⟨_, rfl⟩
      have HB := hide hb
      rw [hb] at C
      have HC := hide C
      have HID := hide (show b = false → t.a.cop v = t.a from fun h => rq_cop_id (hb.trans h))
      have HT := hide hT
      have HMM := hide (And.intro hmm hBm)
      clear hab hmm hBm hnot hkl hrg hT hv hS C hb HI
      obtain ⟨bv, mv⟩ := v
      dsimp only at r0 r1 HC HY HB HID HT
      go_wp2_with fail
      refine HC.out.mono ?_
      rintro e w2 ⟨rfl, t2, hab2, hm2, hB2, hS2⟩
      have HS2 := hide hS2
      have HA2 := hide hab2
      have HM2 := hide (And.intro (hm2.trans HMM.out.1) (hB2.trans HMM.out.2))
      clear hS2 hab2 hm2 hB2 HC r0 r1 r4
      cases b with
      | true =>
        have HW2 := hide (HWS.out _ (HY.out HB.out))
        clear HID HY
        go_wp2_with fail
        (try simp only [Exit.inBlock, Exit.then]); refine bodyPost_ret (results_none rfl _ _ _) rfl ?_
        exact ⟨⟨_, rfl⟩, t2, by rw [HA2.out]; exact HW2.out.symm, HM2.out.1, HS2.out⟩
      | false =>
        have HN2 := hide (HID.out rfl)
        clear HID HY
        go_wp2_with fail
        go_roundw
        case rel => exact ⟨k + 1, t2, by omega, by go_num, ⟨HA2.out.trans HN2.out, HM2.out.1, HM2.out.2, fun v hv => by
          rw [HT.out] at hv
          rcases List.mem_append.1 hv with h3 | h3
          · exact HNT.out v h3
          · rw [List.mem_singleton.1 h3]; exact HB.out⟩, HS2.out⟩
        case measure => simp [intOf]; omega
    · rw [List.take_of_length_le (by rw [show t.m.regs.length = 8 from HOK.out.m.r8]; omega)] at hnot
      have HMI := hide (show t.a.miss = none from find_no hnot)
      obtain ⟨k0, k1, k2, k3, -, -, k6, k7, k8⟩ := rq_cells (pre := [x]) hS
      have HS := hide hS
      have HAB := hide hab
      have hml := HOK.out.ml
      have hfi := HOK.out.fi
      have htm := HOK.out.tm
      rw [← hab] at hml hfi htm
      replace hml : t'.made.length ≤ 500 := hml
      replace hfi : t'.filled ≤ 500 := hfi
      replace htm : t'.times ≤ 100000 := htm
      have e1 : t.a.made = t'.made := congrArg RqA.made hab.symm
      have e2 : t.a.filled = t'.filled := congrArg RqA.filled hab.symm
      by_cases hf : t'.filled < t'.made.length
      · obtain ⟨gm, hAm, hgm, e0⟩ := ints_at2 (rq_made (pre := [x]) hS) hf
        obtain ⟨z, hz, hzl⟩ := HOK.out.md t'.made[t'.filled] (by rw [e1]; exact List.getElem_mem hf)
        have hzm : z < t'.m.obs.length := by rw [hmm]; rw [show t.a.σ.objs.length = t.m.obs.length from List.length_map ..] at hzl; exact hzl
        obtain ⟨-, m1, -, -, -⟩ := rm_mem (rq_rm (pre := [x]) hS)
        obtain ⟨ga, hga, a1, a2⟩ := rm_ob (rq_rm (pre := [x]) hS) hzm
        have hfn := rm_len (rq_rm (pre := [x]) hS) (List.getElem_mem hzm)
        have hob : obA t.a.σ.objs (z : Int) = t'.m.obs[z].fields := by
          rw [← hab]
          show obA (t'.m.obs.map Ob.fields) (z : Int) = _
          unfold obA
          rw [Int.toNat_natCast, List.getD_eq_getElem?_getD]
          simp [List.getElem?_eq_getElem hzm]
        have h4 : t'.m.obs[z].fields.length ≤ 4 := by rw [← hob]; exact HOK.out.m.f4 _ (by
          rw [hob, ← hab]; exact List.mem_map.2 ⟨_, List.getElem_mem hzm, rfl⟩)
        have hn5 : t'.m.obs.length ≤ 500 := by rw [hmm]; have h1 := HOK.out.n; rw [show t.a.σ.objs.length = t.m.obs.length from List.length_map ..] at h1; exact h1
        have HWK := hide (HWF.out HMI.out (z : Int) (by rw [e1, e2, List.getElem?_eq_getElem hf, hz]))
        rw [hz] at e0
        rw [hob] at HWK
        rw [hga] at m1
        have hFD := fun (k : Nat) (fs : List Val) (oA : Option Addr) (e1 : t'.m.obs[z].fields = fs) (e2 : t'.m.obs[z].A = oA) (hk : k < fs.length) (X : World) (hP : (rmI t'.Bm t'.m).P X) => rq_field hP hzm e1 e2 hk
        obtain ⟨fs, hfs⟩ : ∃ q, t'.m.obs[z].fields = q := ⟨_, rfl⟩
        simp only [hfs] at HWK h4 hfn
        obtain ⟨oA, hoA⟩ : ∃ q, t'.m.obs[z].A = q := ⟨_, rfl⟩
        obtain ⟨oN, hoN⟩ : ∃ q, t'.m.obs[z].n = q := ⟨_, rfl⟩
        obtain ⟨oC, hoC⟩ : ∃ q, t'.m.obs[z].c = q := ⟨_, rfl⟩
        rw [hoA, hoN, hoC] at a1
        rw [hoN] at hfn
        have HFD := hide (fun (k : Nat) (hk : k < fs.length) (X : World) (hP : (rmI t'.Bm t'.m).P X) => hFD k fs oA hfs hoA hk X hP)
        have HFN := hide hfn
        rw [hfn] at h4
        obtain ⟨f, hfd⟩ : ∃ q, t'.filled = q := ⟨_, rfl⟩
        obtain ⟨nm, hnm⟩ : ∃ q, t'.made.length = q := ⟨_, rfl⟩
        obtain ⟨nO, hnO⟩ : ∃ q, t'.m.obs.length = q := ⟨_, rfl⟩
        obtain ⟨cO, hcO⟩ : ∃ q, t'.m.co = q := ⟨_, rfl⟩
        obtain ⟨cM, hcM⟩ : ∃ q, t'.cm = q := ⟨_, rfl⟩
        rw [hfd] at k3 e0
        rw [hnm, hAm, hcM] at k2
        rw [hnO, hcO] at m1
        have hzO : z < nO := by rw [← hnO]; exact hzm
        rw [hnO] at hn5
        rw [hfd, hnm] at hf
        rw [hnm] at hml
        rw [hfd] at hfi
        have HF0 := hide (show t.a.filled = f from e2.trans hfd)
        have HML := hide (show t.a.made.length ≤ 500 from HOK.out.ml)
        have HMM := hide (And.intro hmm hBm)
        have q1 : decide ((f : Int) < (nm : Int)) = true := by simp; omega
        have q2 : decide ((f : Int) < 0) = false := by simp
        have q3 : decide ((nm : Int) ≤ (f : Int)) = false := by simp; omega
        have q4 : decide ((z : Int) < 0) = false := by simp
        have q5 : decide ((nO : Int) ≤ (z : Int)) = false := by simp; omega
        clear hFD hab hmm hBm hnot hS HI e1 e2 HMI hAm hz hzl hzm hga hfn hob hfs hoA hoN hoC hfd hnm hnO hcO hcM htm
        go_upto_region 11 with fail
        go_quiet (fail)
        go_upto_region 12 with fail
        go_quiet (fail)
        go_wp2_with fail
        go_loopw [109] (fun q wr => ∃ (k : Nat) (t2 : RqT), k ≤ oN ∧ q = .int .i64 k ∧ Hid (t2.a = (fs.take k).foldl RqA.cop t.a ∧ t2.m = t'.m ∧ t2.Bm = t'.Bm) ∧ Sep F W0 wr (x :: rqR Bc t2)) (fun q _ => oN - (intOf q).toNat)
        case atStart => exact ⟨0, t', by omega, rfl, ⟨HAB.out, rfl, rfl⟩, by first | exact HS.out | exact HS.out.drew | exact HS.out.drewN _ | exact (HS.out.drewN _).drewN _⟩
        case round =>
          clear HS HAB k0 k1 k2 k3 k6 k7 k8 e0 m1 a1
          obtain ⟨k, t2, hk2, rfl, HI, hS⟩ := hrel
          obtain ⟨hab, hmm, hBm⟩ := HI.out
          obtain ⟨l1, l2, -⟩ := rfold_len (fs.take k) t.a
          rw [← hab] at l1 l2
          rw [HF0.out] at l2
          by_cases hlt : k < oN
          · have hkl : k < fs.length := by rw [HFN.out]; exact hlt
            obtain ⟨g2, hg2, r0, r1, r4⟩ := HFD.out k hkl wr (by rw [← hmm, ← hBm]; exact rq_rm (pre := [x]) hS)
            subst hg2
            have hT := List.take_succ_eq_append_getElem hkl
            obtain ⟨v, hv⟩ : ∃ v, fs[k] = v := ⟨_, rfl⟩
            rw [hv] at r0 r1 hT
            have HNX := hide (show t2.a.cop v = (fs.take (k + 1)).foldl RqA.cop t.a from by rw [hT, List.foldl_append, ← hab]; rfl)
            have HC := hide (rqcopied_any (hS.alloc (.cells #[.bool v.1, .int .i64 v.2] 107)) v (by
              have h1 := HML.out
              have h2 : (fs.take k).length ≤ k := by rw [List.length_take]; omega
              rw [show t2.a.made.length = t2.made.length from rfl] at l1
              omega))
            have HM2 := hide (And.intro hmm hBm)
            clear hab hmm hBm l1 l2 hkl hT hv hS HI
            obtain ⟨bv, mv⟩ := v
            dsimp only at r0 r1 HC HNX
            go_wp2_with fail
            refine HC.out.mono ?_
            rintro e w3 ⟨rfl, t3, hab3, hm3, hB3, hS3⟩
            have HS3 := hide hS3
            have HA3 := hide (hab3.trans HNX.out)
            have HM3 := hide (And.intro (hm3.trans HM2.out.1) (hB3.trans HM2.out.2))
            clear hS3 hab3 hm3 hB3 HC r0 r1 r4
            go_wp2_with fail
            go_roundw
            case rel => exact ⟨k + 1, t3, by omega, by go_num, ⟨HA3.out, HM3.out.1, HM3.out.2⟩, HS3.out⟩
            case measure => simp [intOf]; omega
          · obtain rfl : k = oN := by omega
            rw [List.take_of_length_le (by rw [HFN.out]; exact Nat.le_refl _)] at hab
            obtain ⟨k0, -, -, k3, -, -, -, k7, k8⟩ := rq_cells (pre := [x]) hS
            have hf2 : t2.filled = f := l2
            have HF := hide (rq_fl hS (f + 1))
            have HMF := hide (hmm.trans HMM.out.1)
            have HE := hide (show ({ t2 with filled := f + 1 } : RqT).a = t.a.work from by
              rw [HWK.out, ← hab, HF0.out]
              rfl)
            rw [hf2] at k3
            clear hab hmm hBm l1 l2 hS HI hf2
            go_wp2_with fail
            (try simp only [Exit.inBlock, Exit.then]); refine bodyPost_ret (results_none rfl _ _ _) rfl ?_
            exact ⟨⟨_, rfl⟩, _, HE.out, HMF.out, HF.out⟩
      · have HF := hide (fun m => rq_flip (hS.drewN m))
        have HMF := hide hmm
        have HE := hide (show t'.fp.a = t.a.work from by
          rw [HWN.out HMI.out (by rw [e1, e2]; exact List.getElem?_eq_none_iff.2 (by omega)), ← hab]
          rfl)
        obtain ⟨f, hfd⟩ : ∃ q, t'.filled = q := ⟨_, rfl⟩
        obtain ⟨nm, hnm⟩ : ∃ q, t'.made.length = q := ⟨_, rfl⟩
        obtain ⟨tm, htmd⟩ : ∃ q, t'.times = q := ⟨_, rfl⟩
        rw [hfd] at k3 hf
        rw [hnm] at k2 hf
        simp only [hnm] at HF
        rw [htmd] at k6 htm
        simp only [htmd] at HF
        have q1 : decide ((f : Int) < (nm : Int)) = false := by simp; omega
        clear hab hmm hBm hnot hS HI e1 e2 hfd hnm htmd HS HAB HMI
        go_upto_region 11 with fail
        go_quiet (fail)
        go_wp2_with fail
        go_end0
        exact ⟨⟨_, rfl⟩, t'.fp, HE.out, HMF.out, HF.out _⟩
theorem rqwork_any {F : Nat → Prop} {W0 w : World} {Bc : Nat} {t : RqT} {x : Item} (h : Sep F W0 w (x :: rqR Bc t)) (ok : RqOk t.a) :
    Calls Try.prog 85 #[.pointer (some ⟨Bc, 0, none⟩)] w fun e w' => (∃ u, e = .returned u) ∧ ∃ t' : RqT, t'.a = t.a.work ∧ t'.m = t.m ∧ Sep F W0 w' (x :: rqR Bc t') := by
  cases hl : t.log with
  | nil => exact rqwork_rest h ok hl
  | cons p l => exact rqwork_log h ok (o := p.1) (k := p.2) hl
end Go.Proofs.Ytjphckfbbiehdaa

namespace Go.Proofs.Ytjphckfbbiehdaa
section
variable {P : Program} {ops : Array Oper} {Q : Exit → Act → World → Prop} {md : Region.Mode} {S : World → Prop} {z : Nat}
/-- Whatever order is picked from here on; S holds behind every operation but the one numbered z. -/
def wpAnyZ (P : Program) (md : Region.Mode) (ops : Array Oper) (Q : Exit → Act → World → Prop) (S : World → Prop) (z : Nat) : Nat → Array Bool → Act → World → Prop
  | 0, listed, a, w => Region.ready md ops listed = [] ∧ Q .normal a w
  | fuel + 1, listed, a, w =>
    (Region.ready md ops listed = [] → Q .normal a w) ∧
    ∀ i ∈ Region.ready md ops listed, wpOp P ops Q i (fun a' w' => (i ≠ z → S w') ∧ wpAnyZ P md ops Q S z fuel (listed.setIfInBounds i true) a' w') a w
theorem wpAny_of_z : ∀ (fuel : Nat) (listed : Array Bool) (a : Act) (w : World), wpAnyZ P md ops Q S z fuel listed a w → wpAny P md ops Q fuel listed a w
  | 0, _, _, _, h => h
  | fuel + 1, _, _, _, h => ⟨h.1, fun i hi => wpOp_mono (fun a' w' h' => wpAny_of_z fuel _ a' w' h'.2) (h.2 i hi)⟩
/-- What has come up waits for nothing that has not. -/
def Clo (md : Region.Mode) (ops : Array Oper) (listed : Array Bool) : Prop := ∀ j oj, ops[j]? = some oj → listed.getD j false = true → ∀ e ∈ oj.after, Region.binds md e = true → listed.getD e.on false = true
theorem Clo.start (n : Nat) : Clo md ops (Array.replicate n false) := fun j _ _ h => by rw [getD_replicate_false] at h; cases h
theorem Clo.set {i : Nat} {listed : Array Bool} (h : Clo md ops listed) (hi : i ∈ Region.ready md ops listed) : Clo md ops (listed.setIfInBounds i true) := by
  obtain ⟨_, oi, hoi, hall⟩ := mem_ready.1 hi
  intro j oj hj hl e he hb
  by_cases hij : i = j
  · subst hij
    have : oj = oi := Option.some.inj (hj.symm.trans hoi)
    subst this
    exact getD_set_true (hall e he hb)
  · rw [getD_set_ne false hij] at hl
    exact getD_set_true (h j oj hj hl e he hb)
/-- Number z waits for number i, or for one that does. -/
def waits2 (md : Region.Mode) (ops : Array Oper) (z i : Nat) : Bool := Region.waitsFor md ops z i || (List.range ops.size).any fun j => Region.waitsFor md ops z j && Region.waitsFor md ops j i
theorem waits2_spec {i : Nat} {listed : Array Bool} (hc : Clo md ops listed) (hz : waits2 md ops z i = true) (hr : z ∈ Region.ready md ops listed) : listed.getD i false = true := by
  obtain ⟨_, oz, hoz, hall⟩ := mem_ready.1 hr
  unfold waits2 at hz
  rw [Bool.or_eq_true] at hz
  rcases hz with h | h
  · obtain ⟨o', ho', e, he, hb, hon⟩ := Region.waitsFor_spec h
    have : o' = oz := Option.some.inj (ho'.symm.trans hoz)
    subst this
    rw [← hon]; exact hall e he hb
  · obtain ⟨j, _, hj⟩ := List.any_eq_true.1 h
    rw [Bool.and_eq_true] at hj
    obtain ⟨o', ho', e, he, hb, hon⟩ := Region.waitsFor_spec hj.1
    have : o' = oz := Option.some.inj (ho'.symm.trans hoz)
    subst this
    have h1 := hall e he hb
    rw [hon] at h1
    obtain ⟨oj, hoj, e2, he2, hb2, hon2⟩ := Region.waitsFor_spec hj.2
    rw [← hon2]; exact hc j oj hoj h1 e2 he2 hb2
theorem wpAnyZ_first {i : Nat} {oi : Oper} {v : Value} (hi : ops[i]? = some oi) (hsel : ∀ (j : Nat) (o : Oper) cs b, ops[j]? = some o → o.op ≠ .select cs b)
    (hQ : ∀ c a w, Q (.panic c) (a.put oi.dst v) w → Q (.panic c) a w) (hz : waits2 md ops z i = true) :
    ∀ (fuel : Nat) (listed : Array Bool) (a : Act) (w : World), Clo md ops listed →
      (∀ j oj, ops[j]? = some oj → j ≠ i → listed.getD j true = false → (∀ e ∈ oj.after, Region.binds md e = true → e.on ≠ i) → oi.apart ops oj = true) →
      i ∈ Region.ready md ops listed → YieldsIf P ops S oi v a → S w →
      wpAnyZ P md ops Q S z fuel (listed.setIfInBounds i true) (a.put oi.dst v) w → wpAnyZ P md ops Q S z (fuel + 1) listed a w := by
  intro fuel
  induction fuel with
  | zero =>
    intro listed a w _ _ hr hy hS H
    refine ⟨fun h => (by rw [h] at hr; cases hr), fun j hj => ?_⟩
    by_cases hji : j = i
    · subst hji; exact hy.wpOp hi hS ⟨fun _ => hS, H⟩
    · have := ready_mono hj hji
      rw [H.1] at this
      cases this
  | succ fuel ih =>
    intro listed a w hcl hfree hr hy hS H
    refine ⟨fun h => (by rw [h] at hr; cases hr), fun j hj => ?_⟩
    by_cases hji : j = i
    · subst hji; exact hy.wpOp hi hS ⟨fun _ => hS, H⟩
    · have h1 := H.2 j (ready_mono hj hji)
      obtain ⟨hjun, oj, hoj, hall⟩ := mem_ready.1 hj
      have hnot : ∀ e ∈ oj.after, Region.binds md e = true → e.on ≠ i := fun e he hb heq => by
        have h1 := hall e he hb
        have h0 := (mem_ready.1 hr).1
        rw [heq] at h1
        rcases Nat.lt_or_ge i listed.size with h' | h'
        · simp [h'] at h0 h1; rw [h0] at h1; cases h1
        · simp [Array.getElem?_eq_none h'] at h1
      have hjz : j ≠ z := by
        rintro rfl
        have h1 := waits2_spec hcl hz hj
        have h0 := (mem_ready.1 hr).1
        rcases Nat.lt_or_ge i listed.size with h' | h'
        · simp [h'] at h0 h1; rw [h0] at h1; cases h1
        · simp [Array.getElem?_eq_none h'] at h1
      have h2 := wpOp_putIf hoj (hfree j oj hoj hji hjun hnot) (fun cs b => hsel i oi cs b hi) (fun cs b => hsel j oj cs b hoj) hQ hy h1
      have hfree' : ∀ k ok, ops[k]? = some ok → k ≠ i → (listed.setIfInBounds j true).getD k true = false →
          (∀ e ∈ ok.after, Region.binds md e = true → e.on ≠ i) → oi.apart ops ok = true := fun k ok hk hki hun hno => by
        refine hfree k ok hk hki ?_ hno
        by_cases hjk : j = k
        · subst hjk; exact hjun
        · rw [getD_set_ne true hjk] at hun; exact hun
      refine wpOp_mono (fun a' w' h3 => ⟨h3.2.1, ih (listed.setIfInBounds j true) a' w' (hcl.set hj) hfree' (ready_mono hr (Ne.symm hji)) h3.1 (h3.2.1 hjz) ?_⟩) h2
      rw [Array.setIfInBounds_comm _ _ hji]
      exact h3.2.2
/-- These are taken first, one after the other. -/
def takeB (md : Region.Mode) (ops : Array Oper) (z : Nat) : List Nat → Array Bool → Bool
  | [], _ => true
  | i :: l, listed => (Region.ready md ops listed).contains i && Region.free md ops listed i && waits2 md ops z i && (match ops[i]? with | some o => o.dst.isSome | none => false) && takeB md ops z l (listed.setIfInBounds i true)
def takeL : List Nat → Array Bool → Array Bool
  | [], listed => listed
  | i :: l, listed => takeL l (listed.setIfInBounds i true)
def wpTake (P : Program) (ops : Array Oper) (S : World → Prop) : List Nat → Act → (Act → Prop) → Prop
  | [], a, K => K a
  | i :: l, a, K => ∃ oi v, ops[i]? = some oi ∧ YieldsIf P ops S oi v a ∧ wpTake P ops S l (a.put oi.dst v) K
theorem wpTake_cons {i : Nat} {l : List Nat} {a : Act} {K : Act → Prop} {oi : Oper} {v : Value} (hi : ops[i]? = some oi) (hw : Region.wanted oi (yielded ops a.tmps) = true) (hy : ∀ w, S w → (execOp a.eval oi).run P w = .ok (.value v) w) (h : wpTake P ops S l (a.put oi.dst v) K) : wpTake P ops S (i :: l) a K :=
  ⟨oi, v, hi, .inl ⟨hw, hy⟩, h⟩
theorem wpTake_nil {a : Act} {K : Act → Prop} (h : K a) : wpTake P ops S [] a K := h
theorem wpAnyZ_takes (hs : Region.noSelect ops = true) (hQ : ∀ c a (d : Tmp) v w, Q (.panic c) (a.put (some d) v) w → Q (.panic c) a w) {w : World} (hS : S w) {fuel : Nat} : ∀ (l : List Nat) (listed : Array Bool) (a : Act), Clo md ops listed →
    takeB md ops z l listed = true → wpTake P ops S l a (fun a' => wpAnyZ P md ops Q S z fuel (takeL l listed) a' w) → wpAnyZ P md ops Q S z (fuel + l.length) listed a w
  | [], _, _, _, _, h => h
  | i :: l, listed, a, hcl, hB, h => by
    obtain ⟨oi, v, hi, hy, h2⟩ := h
    simp only [takeB, Bool.and_eq_true, decide_eq_true_eq] at hB
    obtain ⟨⟨⟨⟨h3, h4⟩, h5⟩, h8⟩, h7⟩ := hB
    have hr : i ∈ Region.ready md ops listed := by simpa using h3
    rw [hi] at h8
    obtain ⟨d, hd⟩ := Option.isSome_iff_exists.1 h8
    exact wpAnyZ_first hi (Region.noSelect_spec hs) (fun c a w => by rw [hd]; exact hQ c a d _ w) h5 (fuel + l.length) listed a w hcl (Region.free_spec hi h4) hr hy hS (wpAnyZ_takes hs hQ hS l _ _ (hcl.set hr) h7 h2)
theorem wp_region_z {id : Nat} {a : Act} {w : World} (z : Nat) (S : World → Prop) (hm : P.follows .mixedOrders = true)
    (h : wpAnyZ P .any ops Q S z ops.size (Array.replicate ops.size false) a w.drew) : (Code.region id ops true).wp P Q a w :=
  wp_region_any hm (wpAny_of_z _ _ _ _ h)
/-- One alone may come up. -/
theorem wpAnyZ_one {i : Nat} {o : Oper} {fuel : Nat} {listed : Array Bool} {a : Act} {w : World} (hr : Region.ready md ops listed = [i]) (ho : ops[i]? = some o)
    (h : ∀ K' : Act → World → Prop, Shut (∀ a w, (i ≠ z → S w) → wpAnyZ P md ops Q S z fuel (listed.setIfInBounds i true) a w → K' a w) → if Region.wanted o (yielded ops a.tmps) = true then Oper.wp P o a w K' Q else K' (a.put o.dst undef) w) :
    wpAnyZ P md ops Q S z (fuel + 1) listed a w := by
  refine ⟨fun h0 => (by rw [hr] at h0; cases h0), fun j hj => ?_⟩
  rw [hr] at hj
  obtain rfl : j = i := by simpa using hj
  exact wpOp_step ho (fun K' hK => h K' (fun a w hS hW => hK a w ⟨hS, hW⟩))
theorem wpAnyZ_done {fuel : Nat} {listed : Array Bool} {a : Act} {w : World} (hr : Region.ready md ops listed = []) (h : Q .normal a w) : wpAnyZ P md ops Q S z fuel listed a w := by
  cases fuel with
  | zero => exact ⟨hr, h⟩
  | succ n => exact ⟨fun _ => h, by rw [hr]; simp⟩
end
end Go.Proofs.Ytjphckfbbiehdaa
