/- A memory with so many words: all is cleared up. A memory with so many words, plain: a script; it tells what the memory without end tells; what has no room. Whose each word is, plain: the words of the reference beside the program's places. -/
import Derived.Maps.OwnSet
import Derived.Test.YtjphckfbbiehdaaGTopIdeal3
import Derived.Test.YtjphckfbbiehdaaGTopIdeal1
import Derived.Test.YtjphckfbbiehdaaGIdealPlays18
set_option linter.unusedSimpArgs false
set_option linter.unusedVariables false
namespace Go.Proofs.Ytjphckfbbiehdaa
open Go.RowKit Go.Maps

def Oj.dropI (s : Oj) (i : Nat) : Oj := { s with ps := s.ps.set i none }
theorem oj_drop {F : Nat → Prop} {W w : World} {s : Oj} {pre : List Item} (h : Sep F W w (pre ++ ojL s)) {i ga : Nat} (hi : i < s.ps.length) (hA : s.As = some ⟨ga, 0, none⟩) : Sep F W (w.setCell ⟨ga, i, none⟩ (.pointer none)) (pre ++ ojL (s.dropI i)) := by
  have h2 : Sep F W w ((rowI 170 1 (some ⟨ga, 0, none⟩) s.ps.length s.c (s.ps.map ptrV) :: pre) ++ s.ps.map opI) := by
    rw [← hA]
    exact h.perm (show (pre ++ rowI 170 1 s.As s.ps.length s.c (s.ps.map ptrV) :: s.ps.map opI).Perm _ from List.perm_middle)
  have h3 := h2.store 0 (g := ga) rfl i (.pointer none)
  have h4 : Sep F W (w.setCell ⟨ga, i, none⟩ (.pointer none)) ((rowI 170 1 (some ⟨ga, 0, none⟩) s.ps.length s.c ((s.ps.map ptrV).set i (.pointer none)) :: pre) ++ s.ps.map opI) := h3
  have h5 := h4.focus (j := i) (t := s.ps[i]) (List.getElem?_eq_getElem hi)
  have h6 := h5.step 0 rfl (Chg.refl _ _) (opI none) ⟨fun i hi => by simp at hi, .nil⟩ (fun g hg => by obtain ⟨_, h, _⟩ := hg; simp at h)
  have h7 := Sep.unfocus (l := s.ps) (j := i) h6 hi
  have e : ojL (s.dropI i) = rowI 170 1 (some ⟨ga, 0, none⟩) s.ps.length s.c ((s.ps.map ptrV).set i (.pointer none)) :: (s.ps.set i none).map opI := by
    unfold ojL Oj.dropI
    dsimp only
    rw [List.length_set, List.map_set, hA]
    rfl
  rw [e]
  exact h7.perm List.perm_middle.symm
theorem oj_dropI_abs (s : Oj) (i : Nat) : (s.dropI i).abs = s.abs.set i none := by
  unfold Oj.dropI Oj.abs
  dsimp only
  rw [List.map_set]
  rfl
theorem dropF_snoc' (objs : List (Option (List Val))) (xs : List Int) (x : Int) : dropF objs (xs ++ [x]) = (dropF objs xs).set x.toNat none := by unfold dropF; rw [List.foldl_append]; rfl
def RnT.oj_ (t : RnT) (s : Oj) : RnT := { t with oj := s }
def RnT.tm (t : RnT) (x : Int) : RnT := { t with times := x }
def goneF (L : List Int) (T : List Int) : List Int := T.filter fun x => !decide (x ∈ L)
theorem goneF_snoc (L T : List Int) (x : Int) : goneF L (T ++ [x]) = goneF L T ++ if x ∈ L then [] else [x] := by
  unfold goneF
  rw [List.filter_append, List.filter_cons, List.filter_nil]
  by_cases h : x ∈ L <;> simp [h]
theorem rn_tm_ok {W : Int} {t : RnT} (ok : RnOk W t.a) (x : Int) : RnOk W (t.tm x).a := ⟨ok.w0, ok.r8, ok.cl, ok.vr, ok.vf, ok.f4, ok.ap⟩
theorem rnC_dropI (Bm : Nat) (c W : Int) (t : RnT) (s : Oj) (z : Nat) : rnC Bm c W (t.oj_ (s.dropI z)) = rnC Bm c W (t.oj_ s) := by
  unfold rnC RnT.oj_ Oj.dropI Oj.v
  dsimp only
  rw [List.length_set]

set_option maxRecDepth 100000 in
set_option maxHeartbeats 32000000 in
theorem rclear_any {F : Nat → Prop} {W0 w : World} {Be Bm : Nat} {c W : Int} {t : RnT} (hK : Sep F W0 w (rnK Be Bm c W t)) (ok : RnOk W t.a) (hc : c = 1 ∨ c = 2 ∨ c = 3) (hW : W ≤ 256) (hn : t.oj.ps.length ≤ 600) (ht0 : 0 ≤ t.times) (ht1 : t.times ≤ 100000) :
    Calls Try.prog 42 #[.pointer (some ⟨Be, 0, none⟩)] w fun e w' => (∃ u, e = .returned u) ∧ ∃ t' : RnT, t'.a = t.a.clear c ∧ Sep F W0 w' (rnK Be Bm c W t') := by
  obtain ⟨k1, -, k3, k4, -, k6, k7, k8⟩ := rn_cells (pre := []) hK
  have hS1 : Sep F W0 (w.setCell ⟨Be, 5, none⟩ (.int .i64 (t.times + 1))) (rnK Be Bm c W (t.tm (t.times + 1))) := hK.set_ 1 (g := Be) (t := 104) rfl 5 (.int .i64 (t.times + 1))
  have ok1 := rn_tm_ok ok (t.times + 1)
  have C1 := hide (rfound_any hS1 ok1 hn)
  have HK1 := hide hS1
  have HDA := hide (fun (s : Oj) (h : s.abs = dropF t.oj.abs (goneF t.a.lives (thereL t.oj.ps))) => show ((t.tm (t.times + 1)).oj_ s).a = t.a.drop from by
    show (⟨t.regs, s.abs, t.ats, t.times + 1⟩ : RnA) = _
    rw [h, ← thereL_abs']
    rfl)
  have hlv : (t.tm (t.times + 1)).a.lives = t.a.lives := rfl
  rw [hlv] at C1
  have HLE := hide (show (thereL t.oj.ps).length ≤ 1000 by have h1 := thereK_len t.oj.ps t.oj.ps.length; have h3 : (thereL t.oj.ps).length = (thereK t.oj.ps t.oj.ps.length).length := rfl; omega)
  have HTH := hide (fun (x : Int) (hx : x ∈ thereL t.oj.ps) => (show ∃ z : Nat, x = (z : Int) ∧ z < t.oj.ps.length from by
    obtain ⟨i, p, rfl, h⟩ := (mem_thereL _ _).1 hx
    exact ⟨i, rfl, (List.getElem?_eq_some_iff.1 h).1⟩))
  have HLL := hide (show t.a.lives.length ≤ 1000 by
    have h1 := (order_ok ok.gv.1 ok.gv.2).len
    have h2 : t.a.gs.length = t.oj.ps.length := by rw [t.a.gs_len]; exact List.length_map ..
    have h3 : t.a.lives.length = (order t.a.gs t.a.regs).length := rfl
    omega)
  have HOK := hide ok
  have HN := hide hn
  have HWW := hide hW
  have HDN := hide (show dropF t.oj.abs (goneF t.a.lives ((thereL t.oj.ps).take 0)) = t.oj.abs from rfl)
  obtain ⟨tm, htm⟩ : ∃ x, t.times = x := ⟨_, rfl⟩
  have w1' : IntKind.i64.wrap (tm + 1) = tm + 1 := wrap64 _ (by omega) (by omega)
  rw [htm] at k6 C1 HK1 HDA
  obtain ⟨t1, ht1'⟩ : ∃ x, t.tm (tm + 1) = x := ⟨_, rfl⟩
  have HT1 := hide (show t1.oj = t.oj ∧ t1.a.lives = t.a.lives from by rw [← ht1']; exact ⟨rfl, rfl⟩)
  rw [ht1'] at HK1
  simp only [ht1'] at HDA
  obtain ⟨L, hL⟩ : ∃ l, t.a.lives = l := ⟨_, rfl⟩
  rw [hL] at C1 HLL HDN
  simp only [hL] at HDA
  have HL := hide hL
  have hwo : (rnK Be Bm c W t1 : List Item) = rnK Be Bm c W (t1.oj_ t.oj) := by rw [← ht1']; rfl
  rw [hwo] at HK1
  have HT1O := hide (show t1.b = t.b ∧ t1.ats = t.ats from by rw [← ht1']; exact ⟨rfl, rfl⟩)
  clear hK ok hW hn ok1 hS1 hlv htm ht1' hL hwo k1 k3 k4
  go_enter Try.func42, Try.ntmps42
  go_wp2_with fail
  refine C1.out.mono ?_
  rintro e w1 ⟨A1, n1, c1, rfl, hP1⟩
  have hS2 := HK1.out.consNew hP1.below_ _ (hP1.get 0 rfl) (fun g hg => (hP1.lo 0 rfl g hg).resolve_left (fun h => h))
  obtain ⟨k1, -, -, -, -, -, -, k8'⟩ := rn_cells (pre := [_]) hS2
  have CT := oThere_any w1 t.oj.As t.oj.ps.length t.oj.c t.oj.ps (by have := HN.out; omega) (hS2.rd_ 4 rfl)
  have hn1 : L.length = n1 := by have := (show w1.ownsRow 0 3 1 (.slice A1 n1 c1) n1 (ints L) from hP1.get 0 rfl).1; simpa using this
  obtain ⟨T, hT⟩ : ∃ l, thereL t.oj.ps = l := ⟨_, rfl⟩
  rw [hT] at CT HLE HTH HDA HDN
  have HTT := hide hT
  obtain ⟨N, hN⟩ : ∃ n, t.oj.ps.length = n := ⟨_, rfl⟩
  have hk1 : w1.cell? ⟨Be, 0, none⟩ = some (.slice t.oj.As t.oj.ps.length t.oj.c) := k1
  rw [hN] at CT HTH HN hk1
  have HNN := hide hN
  obtain ⟨As, hAs⟩ : ∃ n, t.oj.As = n := ⟨_, rfl⟩
  obtain ⟨cp, hcp⟩ : ∃ n, t.oj.c = n := ⟨_, rfl⟩
  rw [hAs, hcp] at CT hk1
  have HCT := hide CT
  have HS2 := hide hS2
  have HN1 := hide (show n1 ≤ 1000 by rw [← hn1]; exact HLL.out)
  clear hP1 hS2 CT C1 HK1 hT hN hAs hcp k1 hn1 k6 k7 k8
  go_wp2_with fail
  refine HCT.out.mono ?_
  rintro e w2 ⟨A2, c2, rfl, hP2⟩
  have hS3 := HS2.out.consNew hP2.below_ _ (hP2.get 0 rfl) (fun g hg => (hP2.lo 0 rfl g hg).resolve_left (fun h => h))
  obtain ⟨m, hm⟩ : ∃ m, T.length = m := ⟨_, rfl⟩
  rw [hm] at hS3 HLE ⊢
  have HM := hide hm
  have HS3 := hide hS3
  have hm9 : m ≤ 1000 := HLE.out
  clear hP2 hS3 hm HS2 HCT hk1 k8'
  go_wp2_with fail
  go_loopw [20] (fun i wr => ∃ (k : Nat) (s : Oj), k ≤ m ∧ i = .int .i64 k ∧ Hid (s.abs = dropF t.oj.abs (goneF L (T.take k)) ∧ s.ps.length = N) ∧ Sep F W0 wr (rowI 3 1 A2 m c2 (ints T) :: rowI 3 1 A1 n1 c1 (ints L) :: rnK Be Bm c W (t1.oj_ s))) (fun i _ => m - (intOf i).toNat)
  case atStart => exact ⟨0, t.oj, by omega, rfl, ⟨rfl, HNN.out⟩, HS3.out⟩
  case round =>
    clear HS3
    obtain ⟨k, s, hk, rfl, HI, hS⟩ := hrel
    by_cases hlt : k < m
    · have hkl : k < T.length := by rw [HM.out]; exact hlt
      obtain ⟨ad, hA, _, had, hc⟩ := (hS.rd_ 0 rfl).at_ hlt
      have e0 := hc (.int .i64 T[k]) (by simp [ints, List.getElem?_eq_getElem hkl])
      have hTk := List.take_succ_eq_append_getElem hkl
      have hmem : T[k] ∈ T := List.getElem_mem hkl
      obtain ⟨x, hx⟩ : ∃ x, T[k] = x := ⟨_, rfl⟩
      rw [hx] at e0 hTk hmem
      obtain ⟨z, rfl, hz⟩ := HTH.out x hmem
      have hG := goneF_snoc L (T.take k) (z : Int)
      rw [← hTk] at hG
      have CC := containsI_any wr A1 n1 c1 L (z : Int) HN1.out (hS.rd_ 1 rfl)
      obtain ⟨habs, hps⟩ := HI.out
      have HS := hide hS
      subst hA
      by_cases hin : (z : Int) ∈ L
      · rw [if_pos hin, List.append_nil] at hG
        rw [decide_eq_true hin] at CC
        have HCC := hide CC
        have HI2 := hide (show s.abs = dropF t.oj.abs (goneF L (T.take (k + 1))) ∧ s.ps.length = N from by rw [hG]; exact ⟨habs, hps⟩)
        clear hc hTk hmem hx hS CC hG habs hps hin HI
        go_wp2_with fail
        refine HCC.out.mono ?_
        rintro e w2 ⟨rfl, rfl⟩
        clear HCC
        go_wp2_with fail
        go_roundw
        case rel => exact ⟨k + 1, s, by omega, by go_num, HI2.out, HS.out⟩
        case measure => simp [intOf]; omega
      · rw [if_neg hin] at hG
        rw [decide_eq_false hin] at CC
        have HCC := hide CC
        have hil : z < s.ps.length := by rw [hps]; exact hz
        have HI2 := hide (show (s.dropI z).abs = dropF t.oj.abs (goneF L (T.take (k + 1))) ∧ (s.dropI z).ps.length = N from by
          rw [hG, dropF_snoc', ← habs, oj_dropI_abs, Int.toNat_natCast]
          exact ⟨rfl, by show (s.ps.set z none).length = N; rw [List.length_set]; exact hps⟩)
        obtain ⟨k1, -, k3, -, -, -, k7, k8⟩ := rn_cells (pre := [_, _]) hS
        have hrow : wr.ownsRow 0 170 1 (.slice s.As s.ps.length s.c) s.ps.length (s.ps.map ptrV) := hS.get 5 rfl
        obtain ⟨ga, hga⟩ := hown_addr hrow (by omega)
        have p2 : ga < wr.heap.size := hS.hi 5 (i := rowI 170 1 s.As s.ps.length s.c (s.ps.map ptrV)) rfl ga (by show (Value.slice s.As s.ps.length s.c).ownBlock = some ga; rw [hga]; rfl)
        have p3 : wr.frozen? ⟨ga, z, none⟩ = false := by
          have ho := hrow
          rw [hga] at ho
          exact ho.frozenAt _
        have p4 : wr.cell? ⟨ga, z, none⟩ = some (ptrV s.ps[z]) := by
          obtain ⟨ad2, hA2, _, _, hc2⟩ := (Rd.of_own (D := fun _ => True) hrow (fun _ _ => trivial)).at_ (k := z) hil
          have h5 := hc2 (ptrV s.ps[z]) (by simp [List.getElem?_eq_getElem hil])
          obtain rfl : (⟨ga, 0, none⟩ : Addr) = ad2 := by rw [hga] at hA2; injection hA2
          rw [hraddr0] at h5
          exact h5
        obtain ⟨pv, hpv⟩ : ∃ v, ptrV s.ps[z] = v := ⟨_, rfl⟩
        rw [hpv] at p4
        have n1' : ga ≠ Be := fun e => hS.other (a := 5) (b := 3) (x := rowI 170 1 s.As s.ps.length s.c (s.ps.map ptrV)) (y := blkI Be 104 (rnC Bm c W (t1.oj_ s))) rfl rfl (by omega) ga (by show (Value.slice s.As s.ps.length s.c).ownBlock = some ga; rw [hga]; rfl) e
        have n2' : Be ≠ ga := fun e => n1' e.symm
        have hS4 : Sep F W0 (wr.setCell ⟨ga, z, none⟩ (.pointer none)) ([rowI 3 1 (some ad) m c2 (ints T), rowI 3 1 A1 n1 c1 (ints L), rnM Be Bm (t1.oj_ s), blkI Be 104 (rnC Bm c W (t1.oj_ s)), atI t1.b N (thereL s.abs) (t1.oj_ s).a.at_] ++ ojL (s.dropI z)) := by
          rw [← hps]
          exact oj_drop (pre := [_, _, _, _, _]) hS hil hga
        have k1' : wr.cell? ⟨Be, 0, none⟩ = some (.slice s.As s.ps.length s.c) := k1
        rw [hga, hps] at k1'
        have k3' : wr.cell? ⟨Be, 2, none⟩ = some (.map (some t1.b)) := k3
        obtain ⟨sc, hsc⟩ : ∃ q, s.c = q := ⟨_, rfl⟩
        obtain ⟨mb, hmb⟩ : ∃ q, t1.b = q := ⟨_, rfl⟩
        rw [hsc] at k1'
        rw [hmb] at k3' hS4
        have HMB := hide hmb
        have HS4 := hide hS4
        have hat : ((t1.oj_ (s.dropI z)).a.at_) = (t1.oj_ s).a.at_ := rfl
        have HDL := hide (show ∀ x ∈ thereL (s.dropI z).abs, x ≠ (z : Int) ∧ x ∈ thereL s.abs from fun x hx => by
          obtain ⟨j, fs, rfl, h⟩ := (mem_thereL _ _).1 hx
          rw [oj_dropI_abs, List.getElem?_set] at h
          by_cases e : z = j
          · subst e
            rw [if_pos rfl] at h
            split at h
            · injection h with h; cases h
            · cases h
          · rw [if_neg e] at h
            exact ⟨by omega, (mem_thereL _ _).2 ⟨j, fs, rfl, h⟩⟩)
        have HWZ := hide (wfI_of (x := (z : Int)) (by omega) (by have := HN.out; omega))
        have HFN := hide (fun (X : World) (h : Sep F W0 X ([rowI 3 1 (some ad) m c2 (ints T), rowI 3 1 A1 n1 c1 (ints L), rnM Be Bm (t1.oj_ s), blkI Be 104 (rnC Bm c W (t1.oj_ s)), atI mb N (thereL (s.dropI z).abs) (t1.oj_ s).a.at_] ++ ojL (s.dropI z))) => (show Sep F W0 X (rowI 3 1 (some ad) m c2 (ints T) :: rowI 3 1 A1 n1 c1 (ints L) :: rnK Be Bm c W (t1.oj_ (s.dropI z))) from by
          unfold rnK rnR
          rw [rnC_dropI]
          have e2 : (t1.oj_ (s.dropI z)).oj.ps.length = N := HI2.out.2
          rw [e2]
          have e3 : (t1.oj_ (s.dropI z)).b = mb := HMB.out
          rw [e3]
          exact h))
        have t1' : decide ((z : Int) < 0) = false := by simp
        have t2' : decide ((N : Int) ≤ (z : Int)) = false := by simp; omega
        have t3' : (0 : Int) ≤ (z : Int) := by omega
        have t4' : (z : Int) < (N : Int) := by omega
        have hN9 : N ≤ 1000 := by have := HN.out; omega
        clear hc hTk hmem hx hS CC hG habs hps hin HI k1 k3 hrow hga hpv hS4 hsc hmb hat HS hil
        go_wp2_with fail
        refine HCC.out.mono ?_
        rintro e w2 ⟨rfl, rfl⟩
        clear HCC
        go_wp2_with (first
          | (at_delete
             refine wpList_atDel rfl _ _ rfl (F := F) (W := W0) (items := _ :: _ :: _ :: _ :: _ :: _) HS4.out 4 (b := mb) rfl (z : Int) rfl rfl HWZ.out (thereL (s.dropI z).abs) HDL.out ?_
             intro w7 hS7))
        have HS8 := hide (HFN.out w7 hS7)
        clear hS7 HS4 HFN HDL
        go_roundw
        case rel => exact ⟨k + 1, s.dropI z, by omega, by go_num, HI2.out, HS8.out⟩
        case measure => simp [intOf]; omega
    · obtain rfl : k = m := by omega
      obtain ⟨habs, hps⟩ := HI.out
      rw [List.take_of_length_le (by rw [HM.out]; exact Nat.le_refl _)] at habs
      have hda := HDA.out s habs
      obtain ⟨-, -, -, k4, -, -, -, k8⟩ := rn_cells (pre := [_, _]) hS
      have okd := HOK.out.drop
      rw [← hda] at okd
      have hps2 : (t1.oj_ s).oj.ps.length ≤ 900 := by show s.ps.length ≤ 900; rw [hps]; have := HN.out; omega
      have hth : ∀ x ∈ L, x ∈ thereL (t1.oj_ s).oj.abs := fun x hx => by
        have h1 := (HOK.out.drop_there x).2 (by rw [HL.out]; exact hx)
        rw [← hda] at h1
        exact h1
      have hsumL : (L.map (t1.oj_ s).a.sz).sum ≤ 256 := by
        have h1 := HOK.out.drop.sum
        rw [sum_perm _ HOK.out.drop_perm, HL.out, ← hda] at h1
        have := HWW.out
        omega
      have hsumR : ((t1.oj_ s).a.row.map (t1.oj_ s).a.sz).sum ≤ 256 := by
        have h1 := okd.sum
        rw [sum_perm _ (t1.oj_ s).a.row_perm]
        have := HWW.out
        omega
      have CD2 := hide (fun (_ : True) => rdown_any (hS.sub (.cons _ (List.Sublist.refl _))) okd hps2 hth hsumL)
      have CRW := hide (fun (_ : True) => row_any (hS.sub (.cons _ (.cons _ (List.Sublist.refl _)))) okd hps2)
      have CD3 := hide (fun (X : World) (A3 : Option Addr) (c3 : Nat) (hX : Sep F W0 X (rowI 3 1 A3 (t1.oj_ s).a.row.length c3 (ints (t1.oj_ s).a.row) :: rnK Be Bm c W (t1.oj_ s))) => rdown_any hX okd hps2 (fun x hx => (t1.oj_ s).a.row_perm.mem_iff.1 hx) hsumR)
      have HDA2 := hide hda
      obtain ⟨t2, ht2⟩ : ∃ q, t1.oj_ s = q := ⟨_, rfl⟩
      rw [ht2] at HDA2 hS CD2 CRW
      simp only [ht2] at CD3
      have HS := hide hS
      clear hda okd hps2 hth hsumL hsumR hS habs hps HI ht2 HDA
      rcases hc with rfl | rfl | rfl
      · clear CD2 CD3 CRW
        go_wp2_with fail
        go_end0
        exact ⟨⟨_, rfl⟩, t2, by rw [HDA2.out]; rfl, HS.out.sub (.cons _ (.cons _ (List.Sublist.refl _)))⟩
      · clear CD3 CRW
        go_wp2_with fail
        refine (CD2.out trivial).mono ?_
        rintro e w5 ⟨⟨u, rfl⟩, hS5⟩
        have HS5 := hide hS5
        clear hS5 CD2 HS
        go_wp2_with fail
        go_end0
        refine ⟨⟨_, rfl⟩, _, ?_, HS5.out⟩
        show (⟨t2.a.regs, t2.a.objs, downG t2.a.sz L 0 t2.a.ats, t2.a.times⟩ : RnA) = _
        rw [HDA2.out]
        unfold RnA.clear
        rw [if_pos rfl, HL.out]
        rfl
      · clear CD2
        go_wp2_with fail
        refine (CRW.out trivial).mono ?_
        rintro e w5 ⟨A5, c5, rfl, hP5⟩
        have hS5 := (HS.out.sub (.cons _ (.cons _ (List.Sublist.refl _)))).consNew hP5.below_ _ (hP5.get 0 rfl) (fun g hg => (hP5.lo 0 rfl g hg).resolve_left (fun h => h))
        have CD := hide (CD3.out w5 A5 c5 hS5)
        clear hP5 hS5 CRW CD3 HS
        go_wp2_with fail
        refine CD.out.mono ?_
        rintro e w6 ⟨⟨u, rfl⟩, hS6⟩
        have HS6 := hide hS6
        clear hS6 CD
        go_wp2_with fail
        go_end0
        refine ⟨⟨_, rfl⟩, _, ?_, HS6.out⟩
        show (⟨t2.a.regs, t2.a.objs, downG t2.a.sz t2.a.row 0 t2.a.ats, t2.a.times⟩ : RnA) = _
        rw [HDA2.out]
        unfold RnA.clear
        rw [if_neg (by decide), if_pos rfl]
        rfl
end Go.Proofs.Ytjphckfbbiehdaa

namespace Go.Proofs.Ytjphckfbbiehdaa
open Go.RowKit

def rnErr (a : RnA) (v : Val) (at_ : Int) : Int := if v.1 = false then 5 else if at_ < 0 ∨ (((a.fld v.2.toNat).getD []).length : Int) ≤ at_ then 3 else 0
def RnA.sr (a : RnA) (r : Nat) (v : Val) : RnA := { a with regs := a.regs.set r v }
def rnPut (a : RnA) (i k : Nat) (v : Val) : RnA := { a with objs := a.objs.set i (some (((a.fld i).getD []).set k v)) }
def rnKst (c W : Int) (d : DoV) (a : RnA) : OutV × RnA :=
  if d.k = 1 then
    if (rnNew c W a d.n.toNat).2.2 ≠ 0 then (⟨(rnNew c W a d.n.toNat).2.2, false, 0⟩, (rnNew c W a d.n.toNat).1)
    else (⟨0, false, 0⟩, (rnNew c W a d.n.toNat).1.sr d.to.toNat (true, (rnNew c W a d.n.toNat).2.1))
  else if d.k = 2 then (⟨0, false, 0⟩, a.sr d.to.toNat (false, d.n))
  else if d.k = 3 then (⟨0, false, 0⟩, a.sr d.to.toNat (rgA a.regs d.fr))
  else if d.k = 4 then
    if rnErr a (rgA a.regs d.to) d.at_ ≠ 0 then (⟨rnErr a (rgA a.regs d.to) d.at_, false, 0⟩, a)
    else (⟨0, false, 0⟩, rnPut a (rgA a.regs d.to).2.toNat d.at_.toNat (rgA a.regs d.fr))
  else if d.k = 5 then
    if rnErr a (rgA a.regs d.fr) d.at_ ≠ 0 then (⟨rnErr a (rgA a.regs d.fr) d.at_, false, 0⟩, a)
    else (⟨0, false, 0⟩, a.sr d.to.toNat (((a.fld (rgA a.regs d.fr).2.toNat).getD []).getD d.at_.toNat (false, 0)))
  else if d.k = 6 then (⟨0, false, if rgA a.regs d.to = rgA a.regs d.fr then 1 else 0⟩, a)
  else (⟨0, (rgA a.regs d.fr).1, if (rgA a.regs d.fr).1 = true then (((a.fld (rgA a.regs d.fr).2.toNat).getD []).length : Int) else (rgA a.regs d.fr).2⟩, a)
def rnDo (c W : Int) (d : DoV) (a : RnA) : OutV × RnA := if wrongM d ≠ 0 then (⟨wrongM d, false, 0⟩, a) else rnKst c W d a
def rnStep (c W : Int) (d : DoV) (a : RnA) : OutV × RnA := if d.k = 8 then (⟨0, false, 0⟩, a.clear c) else rnDo c W d a
def rnStp (c W : Int) (p : List OutV × RnA) (d : DoV) : List OutV × RnA := (p.1 ++ [(rnStep c W d p.2).1], (rnStep c W d p.2).2)
def rnRun (c W : Int) (ds : List DoV) (a : RnA) : List OutV × RnA := ds.foldl (rnStp c W) ([], a)
def rn0 : RnA := ⟨List.replicate 8 (false, 0), [], [], 0⟩
theorem rnRun_snoc (c W : Int) (ds : List DoV) (d : DoV) (a : RnA) : rnRun c W (ds ++ [d]) a = ((rnRun c W ds a).1 ++ [(rnStep c W d (rnRun c W ds a).2).1], (rnStep c W d (rnRun c W ds a).2).2) := by
  unfold rnRun; rw [List.foldl_append]; rfl
theorem rnRun_len (c W : Int) (a : RnA) (ds : List DoV) : (rnRun c W ds a).1.length = ds.length := by
  have key : ∀ r : List DoV, (rnRun c W r.reverse a).1.length = r.reverse.length := by
    intro r
    induction r with
    | nil => rfl
    | cons d r ih => rw [List.reverse_cons, rnRun_snoc, List.length_append, List.length_append, ih]; rfl
  have h := key ds.reverse
  rwa [List.reverse_reverse] at h

/-! ### Beside the memory without end. -/
structure RnSim (a : RnA) (σ : MSt) : Prop where
  r : a.regs = σ.regs
  n : a.objs.length = σ.objs.length
  f : ∀ i fs, a.fld i = some fs → σ.objs[i]? = some fs
theorem RnSim.ob {a : RnA} {σ : MSt} (h : RnSim a σ) {i : Nat} {fs : List Val} (hf : a.fld i = some fs) : obA σ.objs (i : Int) = fs := by
  unfold obA
  rw [Int.toNat_natCast, List.getD_eq_getElem?_getD, h.f i fs hf]; rfl
theorem RnOk.rg {W : Int} {a : RnA} (ok : RnOk W a) (r : Int) : a.vok (rgA a.regs r) := by
  unfold rgA
  rcases getD_mem_or a.regs r.toNat (false, 0) with h2 | h2
  · exact ok.vr _ h2
  · rw [h2]; intro h1; cases h1
theorem RnSim.err {W : Int} {a : RnA} {σ : MSt} (h : RnSim a σ) (ok : RnOk W a) (r at_ : Int) : rnErr a (rgA a.regs r) at_ = fErr σ.objs (rgA σ.regs r) at_ := by
  rw [← h.r]
  unfold rnErr fErr
  by_cases hb : (rgA a.regs r).1 = false
  · rw [if_pos hb, if_pos hb]
  · rw [if_neg hb, if_neg hb]
    obtain ⟨i, fs, e, hf⟩ := ok.rg r (by simpa using hb)
    rw [e, h.ob hf, Int.toNat_natCast, hf]
    rfl
theorem RnSim.clear {W : Int} {a : RnA} {σ : MSt} (h : RnSim a σ) (c : Int) : RnSim (a.clear c) σ := by
  obtain ⟨e1, e2⟩ := a.clear_objs c
  refine ⟨e2.trans h.r, by rw [a.clear_len]; exact h.n, fun i fs hf => ?_⟩
  refine h.f i fs ((a.drop_fld i fs).1 ?_).1
  rw [RnA.fld_iff] at hf ⊢
  rw [← e1]; exact hf
theorem RnSim.push {a : RnA} {σ : MSt} (h : RnSim a σ) (n : Nat) (p : Int) : RnSim (a.push n p) ⟨σ.regs, σ.objs ++ [zeroVs n]⟩ := by
  refine ⟨h.r, ?_, fun i fs hf => ?_⟩
  · show (a.objs ++ [_]).length = (σ.objs ++ [_]).length
    simp [h.n]
  · rcases (a.push_fld n p i fs).1 hf with h1 | ⟨rfl, rfl⟩
    · have h2 := h.f i fs h1
      have h3 := (List.getElem?_eq_some_iff.1 h2).1
      show (σ.objs ++ [zeroVs n])[i]? = _
      rw [List.getElem?_append_left h3]; exact h2
    · show (σ.objs ++ [zeroVs n])[_]? = _
      rw [h.n]; simp
theorem RnSim.sr {a : RnA} {σ : MSt} (h : RnSim a σ) (r : Nat) (v : Val) : RnSim (a.sr r v) ⟨σ.regs.set r v, σ.objs⟩ :=
  ⟨by show a.regs.set r v = _; rw [h.r], h.n, h.f⟩
theorem RnOk.sr {W : Int} {a : RnA} (ok : RnOk W a) (r : Nat) {v : Val} (hv : a.vok v) : RnOk W (a.sr r v) :=
  ⟨ok.w0, by show (a.regs.set r v).length = 8; rw [List.length_set]; exact ok.r8, ok.cl, fun u hu => by
    rcases mem_set_ (show u ∈ a.regs.set r v from hu) with h | rfl
    · exact ok.vr u h
    · exact hv, ok.vf, ok.f4, ok.ap⟩
theorem rnPut_fld {a : RnA} {i k : Nat} {fs : List Val} (v : Val) (hf : a.fld i = some fs) (j : Nat) (gs : List Val) : (rnPut a i k v).fld j = some gs ↔ (j = i ∧ gs = fs.set k v) ∨ (j ≠ i ∧ a.fld j = some gs) := by
  rw [RnA.fld_iff, RnA.fld_iff]
  show (a.objs.set i _)[j]? = _ ↔ _
  rw [List.getElem?_set, hf]
  have hl := RnA.fld_lt hf
  by_cases e : i = j
  · subst e
    rw [if_pos rfl, if_pos hl]
    simp [eq_comm]
  · rw [if_neg e]
    constructor
    · exact fun h => .inr ⟨fun h1 => e h1.symm, h⟩
    · rintro (⟨h1, _⟩ | ⟨_, h⟩)
      · exact absurd h1.symm e
      · exact h
theorem RnOk.put {W : Int} {a : RnA} (ok : RnOk W a) {i k : Nat} {fs : List Val} {v : Val} (hf : a.fld i = some fs) (hv : a.vok v) : RnOk W (rnPut a i k v) := by
  have hvo : ∀ u, a.vok u → (rnPut a i k v).vok u := fun u h h1 => by
    obtain ⟨j, gs, e, hg⟩ := h h1
    by_cases ej : j = i
    · exact ⟨j, _, e, (rnPut_fld v hf j _).2 (.inl ⟨ej, rfl⟩)⟩
    · exact ⟨j, gs, e, (rnPut_fld v hf j gs).2 (.inr ⟨ej, hg⟩)⟩
  have hth : ∀ x, x ∈ thereL (rnPut a i k v).objs → x ∈ thereL a.objs ∧ (rnPut a i k v).sz x = a.sz x := fun x hx => by
    obtain ⟨j, gs, rfl, hg⟩ := RnA.there.1 hx
    have hg0 := hg
    rcases (rnPut_fld v hf j gs).1 hg with ⟨rfl, rfl⟩ | ⟨_, h2⟩
    · refine ⟨RnA.there.2 ⟨j, fs, rfl, hf⟩, ?_⟩
      unfold RnA.sz
      rw [Int.toNat_natCast, hg0, hf]
      simp
    · refine ⟨RnA.there.2 ⟨j, gs, rfl, h2⟩, ?_⟩
      unfold RnA.sz
      rw [Int.toNat_natCast, hg0, h2]
  refine ⟨ok.w0, ok.r8, ?_, fun u hu => hvo u (ok.vr u hu), ?_, ?_, ⟨fun x hx => ok.ap.lo x (hth x hx).1, fun x hx => ?_, fun x hx y hy hne => ?_⟩⟩
  · show a.ats.length = (a.objs.set i _).length
    rw [List.length_set]; exact ok.cl
  · intro j gs u hg hu
    rcases (rnPut_fld v hf j gs).1 hg with ⟨rfl, rfl⟩ | ⟨_, h2⟩
    · rcases mem_set_ hu with h3 | rfl
      · exact hvo u (ok.vf j fs u hf h3)
      · exact hvo u hv
    · exact hvo u (ok.vf j gs u h2 hu)
  · intro j gs hg
    rcases (rnPut_fld v hf j gs).1 hg with ⟨rfl, rfl⟩ | ⟨_, h2⟩
    · rw [List.length_set]; exact ok.f4 j fs hf
    · exact ok.f4 j gs h2
  · rw [(hth x hx).2]; exact ok.ap.hi x (hth x hx).1
  · rw [(hth x hx).2, (hth y hy).2]; exact ok.ap.ap x (hth x hx).1 y (hth y hy).1 hne
theorem RnSim.put {a : RnA} {σ : MSt} (h : RnSim a σ) {i k : Nat} {fs : List Val} {v : Val} (hf : a.fld i = some fs) : RnSim (rnPut a i k v) ⟨σ.regs, σ.objs.set i (fs.set k v)⟩ := by
  refine ⟨h.r, ?_, fun j gs hg => ?_⟩
  · show (a.objs.set i _).length = (σ.objs.set i _).length
    rw [List.length_set, List.length_set]; exact h.n
  · show (σ.objs.set i (fs.set k v))[j]? = _
    rw [List.getElem?_set]
    rcases (rnPut_fld v hf j gs).1 hg with ⟨rfl, rfl⟩ | ⟨h1, h2⟩
    · rw [if_pos rfl, if_pos (by rw [← h.n]; exact RnA.fld_lt hf)]
    · rw [if_neg (fun e => h1 e.symm)]; exact h.f j gs h2
/-- What is behind a field. -/
theorem RnOk.at_field {W : Int} {a : RnA} (ok : RnOk W a) {r at_ : Int} (h : rnErr a (rgA a.regs r) at_ = 0) : ∃ (i : Nat) (fs : List Val), rgA a.regs r = (true, (i : Int)) ∧ a.fld i = some fs := by
  unfold rnErr at h
  split at h
  · omega
  · rename_i hb
    have hb' : (rgA a.regs r).1 = true := by simpa using hb
    obtain ⟨i, fs, e, hf⟩ := ok.rg r hb'
    exact ⟨i, fs, Prod.ext hb' e, hf⟩
theorem rnNew_cases (c W : Int) (a : RnA) (n : Nat) : (∃ b p, (b = a ∨ b = a.clear c) ∧ rnNew c W a n = (b.push n p, (a.objs.length : Int), 0)) ∨ rnNew c W a n = (a.clear c, 0, 6) := by
  unfold rnNew
  split
  · exact .inl ⟨a, _, .inl rfl, rfl⟩
  · split
    · exact .inl ⟨a.clear c, _, .inr rfl, rfl⟩
    · exact .inr rfl
theorem ne06 : (0 : Int) ≠ 6 := by decide
/-- A deed of a machine: both tell the same, or there is no room. -/
theorem rnDo_sim {W : Int} {a : RnA} {σ : MSt} (c : Int) (h : RnSim a σ) (ok : RnOk W a) (d : DoV) :
    RnOk W (rnDo c W d a).2 ∧ (((rnDo c W d a).1.code = 6 ∧ RnSim (rnDo c W d a).2 σ) ∨ ((rnDo c W d a).1.code ≠ 6 ∧ (rnDo c W d a).1 = (stepM d σ).1 ∧ RnSim (rnDo c W d a).2 (stepM d σ).2)) := by
  unfold rnDo stepM
  by_cases hw : wrongM d ≠ 0
  · rw [if_pos hw, if_pos hw]
    refine ⟨ok, .inr ⟨?_, rfl, h⟩⟩
    show wrongM d ≠ 6
    unfold wrongM
    split
    · decide
    · split
      · decide
      · split
        · decide
        · split <;> decide
  rw [if_neg hw, if_neg hw]
  have hw0 : wrongM d = 0 := by omega
  have her : ∀ r at_, rnErr a (rgA a.regs r) at_ ≠ 6 := fun r at_ => by
    unfold rnErr
    split
    · decide
    · split <;> decide
  unfold rnKst stepK
  by_cases h1 : d.k = 1
  · rw [if_pos h1, if_pos h1]
    have h4 := wrongM_n hw0 h1
    obtain ⟨n, hn⟩ := int_nat h4.1
    rw [hn, Int.toNat_natCast]
    have hnew := ok.new_ c (n := n) (by omega)
    rcases rnNew_cases c W a n with ⟨b, p, hb, e⟩ | e
    · rw [e] at hnew ⊢
      rw [if_neg (by simp)]
      dsimp only at hnew ⊢
      have hs : RnSim b σ := by
        rcases hb with rfl | rfl
        · exact h
        · exact h.clear (W := W) c
      refine ⟨hnew.1.sr _ (hnew.2 rfl), .inr ⟨ne06, rfl, ?_⟩⟩
      rw [h.n]
      exact (hs.push n p).sr _ _
    · rw [e] at hnew ⊢
      rw [if_pos (by simp)]
      exact ⟨hnew.1, .inl ⟨rfl, h.clear (W := W) c⟩⟩
  rw [if_neg h1, if_neg h1]
  by_cases h2 : d.k = 2
  · rw [if_pos h2, if_pos h2]
    exact ⟨ok.sr _ (fun h => by cases h), .inr ⟨ne06, rfl, h.sr _ _⟩⟩
  rw [if_neg h2, if_neg h2]
  by_cases h3 : d.k = 3
  · rw [if_pos h3, if_pos h3]
    refine ⟨ok.sr _ (ok.rg _), .inr ⟨ne06, rfl, ?_⟩⟩
    rw [← h.r]
    have := h.sr d.to.toNat (rgA a.regs d.fr)
    rwa [← h.r] at this
  rw [if_neg h3, if_neg h3]
  by_cases h5 : d.k = 4
  · rw [if_pos h5, if_pos h5]
    have he := h.err ok d.to d.at_
    by_cases hz : rnErr a (rgA a.regs d.to) d.at_ ≠ 0
    · rw [if_pos hz, if_pos (by rw [← he]; exact hz)]
      exact ⟨ok, .inr ⟨her _ _, by rw [he], h⟩⟩
    · rw [if_neg hz, if_neg (by rw [← he]; exact hz)]
      obtain ⟨i, fs, e, hf⟩ := ok.at_field (r := d.to) (at_ := d.at_) (by omega)
      rw [← h.r, e]
      dsimp only
      rw [Int.toNat_natCast, h.ob hf]
      refine ⟨ok.put hf (ok.rg _), .inr ⟨ne06, rfl, ?_⟩⟩
      have := h.put (k := d.at_.toNat) (v := rgA a.regs d.fr) hf
      rwa [← h.r] at this
  rw [if_neg h5, if_neg h5]
  by_cases h6 : d.k = 5
  · rw [if_pos h6, if_pos h6]
    have he := h.err ok d.fr d.at_
    by_cases hz : rnErr a (rgA a.regs d.fr) d.at_ ≠ 0
    · rw [if_pos hz, if_pos (by rw [← he]; exact hz)]
      exact ⟨ok, .inr ⟨her _ _, by rw [he], h⟩⟩
    · rw [if_neg hz, if_neg (by rw [← he]; exact hz)]
      obtain ⟨i, fs, e, hf⟩ := ok.at_field (r := d.fr) (at_ := d.at_) (by omega)
      rw [← h.r, e]
      dsimp only
      rw [Int.toNat_natCast, h.ob hf, hf, Option.getD_some]
      refine ⟨ok.sr _ ?_, .inr ⟨ne06, rfl, ?_⟩⟩
      · rcases getD_mem_or fs d.at_.toNat (false, 0) with h7 | h7
        · exact ok.vf i fs _ hf h7
        · rw [h7]; intro h8; cases h8
      · have := h.sr d.to.toNat (fs.getD d.at_.toNat (false, 0))
        rwa [← h.r] at this
  rw [if_neg h6, if_neg h6]
  by_cases h7 : d.k = 6
  · rw [if_pos h7, if_pos h7]
    exact ⟨ok, .inr ⟨ne06, by rw [h.r], h⟩⟩
  · rw [if_neg h7, if_neg h7]
    refine ⟨ok, .inr ⟨ne06, ?_, h⟩⟩
    rw [← h.r]
    by_cases hb : (rgA a.regs d.fr).1 = true
    · obtain ⟨i, fs, e, hf⟩ := ok.rg d.fr hb
      rw [if_pos hb, if_pos hb, e, h.ob hf, Int.toNat_natCast, hf]
      rfl
    · rw [if_neg hb, if_neg hb]
def toldB (works : List Int) (p : DoV × OutV) : Bool := !decide (p.1.k ∈ works) && decide (p.2.code ≠ 6)
def toldF (works : List Int) (ds : List DoV) (os : List OutV) : List (DoV × OutV) := (ds.zip os).filter (toldB works)
theorem toldF_snoc (works : List Int) (ds : List DoV) (os : List OutV) (h : os.length = ds.length) (d : DoV) (o : OutV) : toldF works (ds ++ [d]) (os ++ [o]) = toldF works ds os ++ (if toldB works (d, o) = true then [(d, o)] else []) := by
  unfold toldF
  rw [List.zip_append h.symm, List.filter_append]
  congr 1
  show List.filter (toldB works) [(d, o)] = _
  rw [List.filter_cons]
  rfl
theorem rn0_ok {W : Int} (h : 0 ≤ W) : RnOk W rn0 :=
  have h0 : ∀ i fs, rn0.fld i ≠ some fs := fun i fs h => by
    have := RnA.fld_lt h
    exact absurd this (by show ¬ i < 0; omega)
  ⟨h, rfl, rfl, fun v hv h1 => (by obtain ⟨_, rfl⟩ := List.mem_replicate.1 (show v ∈ List.replicate 8 (false, 0) from hv); cases h1), fun i fs v hf => absurd hf (h0 i fs), fun i fs hf => absurd hf (h0 i fs), ⟨fun x hx => (by cases hx), fun x hx => (by cases hx), fun x hx => (by cases hx)⟩⟩
/-- Whenever it clears up: what is told is what the memory without end tells. -/
theorem rn_told (c : Int) {W : Int} (hW : 0 ≤ W) (ds : List DoV) :
    RnOk W (rnRun c W ds rn0).2 ∧ (runM ((toldF [8] ds (rnRun c W ds rn0).1).map Prod.fst) ⟨List.replicate 8 (false, 0), []⟩).1 = (toldF [8] ds (rnRun c W ds rn0).1).map Prod.snd ∧ RnSim (rnRun c W ds rn0).2 (runM ((toldF [8] ds (rnRun c W ds rn0).1).map Prod.fst) ⟨List.replicate 8 (false, 0), []⟩).2 := by
  have key : ∀ r : List DoV, RnOk W (rnRun c W r.reverse rn0).2 ∧ (runM ((toldF [8] r.reverse (rnRun c W r.reverse rn0).1).map Prod.fst) ⟨List.replicate 8 (false, 0), []⟩).1 = (toldF [8] r.reverse (rnRun c W r.reverse rn0).1).map Prod.snd ∧ RnSim (rnRun c W r.reverse rn0).2 (runM ((toldF [8] r.reverse (rnRun c W r.reverse rn0).1).map Prod.fst) ⟨List.replicate 8 (false, 0), []⟩).2 := by
    intro r
    induction r with
    | nil => exact ⟨rn0_ok hW, rfl, rfl, rfl, fun i fs h => by cases h⟩
    | cons d r ih =>
      obtain ⟨i1, i2, i3⟩ := ih
      rw [List.reverse_cons, rnRun_snoc]
      dsimp only
      rw [toldF_snoc _ _ _ (rnRun_len c W rn0 _)]
      obtain ⟨L, hL⟩ : ∃ l, toldF [8] r.reverse (rnRun c W r.reverse rn0).1 = l := ⟨_, rfl⟩
      obtain ⟨A, hA⟩ : ∃ l, (rnRun c W r.reverse rn0).2 = l := ⟨_, rfl⟩
      rw [hL] at i2 i3
      rw [hA] at i1 i3
      rw [hL, hA]
      unfold rnStep
      by_cases h8 : d.k = 8
      · rw [if_pos h8, if_neg (by simp [toldB, h8]), List.append_nil]
        exact ⟨i1.clear c, i2, i3.clear (W := W) c⟩
      · rw [if_neg h8]
        obtain ⟨k1, k2⟩ := rnDo_sim c i3 i1 d
        refine ⟨k1, ?_⟩
        rcases k2 with ⟨k2, k3⟩ | ⟨k2, k3, k4⟩
        · rw [if_neg (by simp [toldB, k2]), List.append_nil]
          exact ⟨i2, k3⟩
        · rw [if_pos (by simp [toldB, k2, h8]), List.map_append, List.map_append]
          show (runM (_ ++ [d]) _).1 = _ ∧ RnSim _ (runM (_ ++ [d]) _).2
          rw [runM_snoc]
          exact ⟨by rw [i2, ← k3]; rfl, k4⟩
  have h := key ds.reverse
  rwa [List.reverse_reverse] at h
/-- The same graph in the end. -/
theorem rn_graph {W : Int} {a : RnA} {σ : MSt} (h : RnSim a σ) (ok : RnOk W a) : order σ.objs σ.regs = a.lives ∧ renumF σ.objs a.lives = renumF a.gs a.lives := by
  have hf : ∀ x ∈ a.lives, fieldsI a.gs x = fieldsI σ.objs x := fun x hx => by
    obtain ⟨i, fs, rfl, hf⟩ := RnA.there.1 (ok.lives_there x hx)
    rw [a.gs_get, hf]
    exact (h.ob hf).symm
  refine ⟨?_, (renumF_congr hf).symm⟩
  rw [← h.r]
  exact (order_congr (a.gs_len.trans h.n) hf).symm
/-- What has no room. -/
def RnA.live (a : RnA) : Int := (a.lives.map a.sz).sum
theorem sum_le {s : Int → Int} (hs : ∀ x, 0 < s x) : ∀ {l m : List Int}, l.Nodup → (∀ x ∈ l, x ∈ m) → (l.map s).sum ≤ (m.map s).sum := by
  intro l
  induction l with
  | nil =>
    intro m _ _
    have : ∀ m : List Int, 0 ≤ (m.map s).sum := fun m => by
      induction m with
      | nil => exact Int.le_refl _
      | cons a m ih => have := hs a; simp only [List.map_cons, List.sum_cons]; omega
    exact this m
  | cons a l ih =>
    intro m hn hm
    obtain ⟨n1, n2⟩ := List.nodup_cons.1 hn
    have h1 := ih (m := m.erase a) n2 fun x hx => (List.mem_erase_of_ne (by rintro rfl; exact n1 hx)).2 (hm x (List.mem_cons_of_mem _ hx))
    have h2 := sum_perm s (List.perm_cons_erase (hm a (List.mem_cons_self ..)))
    simp only [List.map_cons, List.sum_cons] at h2 ⊢
    omega
theorem RnOk.live_le {W : Int} {a : RnA} (ok : RnOk W a) : a.live ≤ ((thereL a.objs).map a.sz).sum := sum_le a.sz_pos ok.lives_nodup ok.lives_there
theorem map_sum_congr {s t : Int → Int} {l : List Int} (h : ∀ x ∈ l, s x = t x) : (l.map s).sum = (l.map t).sum := by rw [List.map_congr_left h]
theorem RnOk.room_le {W : Int} {a : RnA} (ok : RnOk W a) {c : Int} {n : Nat} (h : 0 ≤ a.room c W (1 + n)) : ((thereL a.objs).map a.sz).sum + (1 + n) ≤ W := by
  have hl : ∀ (sw : Bool) (f s : Int → Int) (l : List Int) (b : Int), (∀ x ∈ l, 0 < s x) → Lad W f s b l → 0 ≤ b → 0 ≤ roomG sw W (1 + n) f s l b → b + (l.map s).sum + (1 + n) ≤ W := by
    intro sw f s l
    induction l with
    | nil =>
      intro b _ _ hb h
      unfold roomG at h
      split at h
      · simp; omega
      · omega
    | cons x l ih =>
      intro b hs hl hb h
      cases hl with
      | cons h1 h2 =>
        have h3 := hs x (List.mem_cons_self ..)
        have h4 := h2.sum
        unfold roomG at h
        simp only [List.map_cons, List.sum_cons]
        split at h
        · omega
        · have := ih _ (fun y hy => hs y (List.mem_cons_of_mem _ hy)) h2 (by omega) h
          omega
  have h1 := hl _ a.at_ a.sz a.row 0 (fun x _ => a.sz_pos x) ok.lad (Int.le_refl _) h
  rw [sum_perm a.sz a.row_perm] at h1
  omega
/-- Cleared up: what is there is what can be come to. -/
theorem RnOk.clear_live {W : Int} {a : RnA} (ok : RnOk W a) (c : Int) : ((thereL (a.clear c).objs).map (a.clear c).sz).sum = a.live := by
  have e1 := (a.clear_objs c).1
  have e2 : (a.clear c).sz = a.drop.sz := by
    funext x
    unfold RnA.sz RnA.fld
    rw [e1]
  rw [e1, e2, sum_perm _ ok.drop_perm]
  exact map_sum_congr fun x hx => ok.drop_sz hx
theorem row_packed {a : RnA} {l : List Int} {W : Int} (ok : RnOk W a) (hp : l.Perm (thereL a.objs)) (hk : Pk a.at_ a.sz 0 l) : l = a.row := by
  refine ok.row_uniq hp ?_
  have key : ∀ (f s : Int → Int) (l : List Int) (b : Int), (∀ x ∈ l, 0 < s x) → Pk f s b l → (∀ x ∈ l, b ≤ f x) ∧ l.Pairwise fun x y => f x ≤ f y := by
    intro f s l
    induction l with
    | nil => exact fun _ _ _ => ⟨fun x hx => (by cases hx), .nil⟩
    | cons x l ih =>
      intro b hs h
      cases h with
      | cons h1 h2 =>
        obtain ⟨i1, i2⟩ := ih _ (fun y hy => hs y (List.mem_cons_of_mem _ hy)) h2
        have h3 := hs x (List.mem_cons_self ..)
        have i3 : ∀ y ∈ l, f x ≤ f y := fun y hy => by have := i1 y hy; omega
        refine ⟨fun y hy => ?_, List.pairwise_cons.2 ⟨i3, i2⟩⟩
        rcases List.mem_cons.1 hy with rfl | hy
        · omega
        · have := i3 y hy; omega
  exact (key _ _ l 0 (fun x _ => a.sz_pos x) hk).2
theorem RnOk.clear_room {W : Int} {a : RnA} (ok : RnOk W a) {c : Int} (hc : c = 2 ∨ c = 3) {n : Nat} (h : (a.clear c).room c W (1 + n) < 0) : W < a.live + (1 + n) := by
  have hpk : ∃ l, l.Perm (thereL (a.clear c).objs) ∧ Pk (a.clear c).at_ (a.clear c).sz 0 l := by
    rcases hc with rfl | rfl
    · exact ⟨a.lives, ok.drop_perm.symm, (ok.drop.down ok.drop_perm.symm).2⟩
    · exact ⟨a.drop.row, a.drop.row_perm, (ok.drop.down a.drop.row_perm).2⟩
  obtain ⟨l, hp, hk⟩ := hpk
  have e := row_packed (ok.clear c) hp hk
  have hroom := hk.room (W := W) (n := 1 + (n : Int))
  have hs : ((a.clear c).row.map (a.clear c).sz).sum = a.live := by rw [sum_perm _ (a.clear c).row_perm]; exact ok.clear_live c
  have hl0 : 0 ≤ a.live := by
    have := sum_le (s := a.sz) a.sz_pos (l := []) (m := a.lives) List.nodup_nil (fun x hx => by cases hx)
    exact this
  unfold RnA.room at h
  rw [show decide (c = 1) = false from by rcases hc with rfl | rfl <;> rfl, ← e, hroom, e, hs] at h
  split at h
  · omega
  · omega
/-- An object that is refused by who moves has no room; one that has room is not refused. -/
theorem rn_room {W : Int} {a : RnA} (ok : RnOk W a) (c : Int) (n : Nat) : ((rnNew c W a n).2.2 = 0 → a.live + (1 + n) ≤ W) ∧ (c = 2 ∨ c = 3 → (rnNew c W a n).2.2 ≠ 0 → W < a.live + (1 + n)) := by
  unfold rnNew
  split
  · rename_i h
    have h1 := ok.room_le h
    have h2 := ok.live_le
    exact ⟨fun _ => by omega, fun _ h3 => absurd rfl h3⟩
  · split
    · rename_i h
      have h1 := (ok.clear c).room_le h
      rw [ok.clear_live] at h1
      exact ⟨fun _ => h1, fun _ h3 => absurd rfl h3⟩
    · rename_i h
      exact ⟨fun h3 => (by cases h3), fun hc _ => ok.clear_room hc (by omega)⟩
end Go.Proofs.Ytjphckfbbiehdaa

namespace Go.Proofs.Ytjphckfbbiehdaa

def InW (f s : Int → Int) (x k : Int) : Prop := f x ≤ k ∧ k < f x + s x
/-- Each word is whose it is, or nobody's. -/
structure WOk (W : Nat) (f s : Int → Int) (l : List Int) (ws : List Int) : Prop where
  len : ws.length = W
  own : ∀ k, k < W → (∃ x ∈ l, InW f s x k ∧ ws[k]? = some x) ∨ (ws[k]? = some (-1) ∧ ∀ x ∈ l, ¬ InW f s x k)
def ladW (W : Int) (f s : Int → Int) : Int → List Int → List Int
  | b, [] => List.replicate (W - b).toNat (-1)
  | b, x :: l => List.replicate (f x - b).toNat (-1) ++ (List.replicate (s x).toNat x ++ ladW W f s (f x + s x) l)
theorem ladW_len {W : Int} {f s : Int → Int} : ∀ {l : List Int} {b : Int}, (∀ x ∈ l, 0 < s x) → Lad W f s b l → (ladW W f s b l).length = (W - b).toNat := by
  intro l
  induction l with
  | nil => intro b _ _; simp [ladW]
  | cons x l ih =>
    intro b hs h
    have h0 := h.start hs
    cases h with
    | cons h1 h2 =>
      have hs' : ∀ y ∈ l, 0 < s y := fun y hy => hs y (List.mem_cons_of_mem _ hy)
      have h3 := hs x (List.mem_cons_self ..)
      have h4 := (h2.start hs').1
      simp only [ladW, List.length_append, List.length_replicate, ih hs' h2]
      omega
theorem ladW_at {W : Int} {f s : Int → Int} : ∀ {l : List Int} {b : Int}, (∀ x ∈ l, 0 < s x) → Lad W f s b l → ∀ i : Nat, b + i < W →
    (∃ x ∈ l, InW f s x (b + i) ∧ (ladW W f s b l)[i]? = some x) ∨ ((ladW W f s b l)[i]? = some (-1) ∧ ∀ x ∈ l, ¬ InW f s x (b + i)) := by
  intro l
  induction l with
  | nil =>
    intro b _ _ i hi
    refine .inr ⟨?_, fun x hx => by cases hx⟩
    simp only [ladW, List.getElem?_replicate]
    rw [if_pos (by omega)]
  | cons x l ih =>
    intro b hs h i hi
    cases h with
    | cons h1 h2 =>
      have hs' : ∀ y ∈ l, 0 < s y := fun y hy => hs y (List.mem_cons_of_mem _ hy)
      have h3 := hs x (List.mem_cons_self ..)
      have h4 := (h2.start hs').2
      unfold InW at ih ⊢
      simp only [ladW]
      by_cases c1 : (i : Int) < f x - b
      · refine .inr ⟨?_, fun y hy => ?_⟩
        · rw [List.getElem?_append_left (by simp; omega), List.getElem?_replicate, if_pos (by omega)]
        · rcases List.mem_cons.1 hy with rfl | hy
          · omega
          · have := h4 y hy; omega
      · rw [List.getElem?_append_right (by simp; omega), List.length_replicate]
        by_cases c2 : (i : Int) < f x - b + s x
        · refine .inl ⟨x, List.mem_cons_self .., by omega, ?_⟩
          rw [List.getElem?_append_left (by simp; omega), List.getElem?_replicate, if_pos (by omega)]
        · rw [List.getElem?_append_right (by simp; omega), List.length_replicate]
          have h5 := ih hs' h2 (i - (f x - b).toNat - (s x).toNat) (by omega)
          rw [show f x + s x + ((i - (f x - b).toNat - (s x).toNat : Nat) : Int) = b + i by omega] at h5
          rcases h5 with ⟨y, hy, h6, h7⟩ | ⟨h6, h7⟩
          · exact .inl ⟨y, List.mem_cons_of_mem _ hy, h6, h7⟩
          · refine .inr ⟨h6, fun y hy => ?_⟩
            rcases List.mem_cons.1 hy with rfl | hy
            · omega
            · exact h7 y hy
/-- Words are what the row says. -/
theorem WOk.lad {W : Nat} {f s : Int → Int} {l m ws : List Int} (h : WOk W f s l ws) (hs : ∀ x ∈ m, 0 < s x) (hl : Lad W f s 0 m) (hm : ∀ x, x ∈ m ↔ x ∈ l) : ws = ladW W f s 0 m := by
  refine List.ext_getElem? fun k => ?_
  by_cases hk : k < W
  · have h1 := h.own k hk
    have h2 := ladW_at hs hl k (by omega)
    rw [Int.zero_add] at h2
    have ha := hl.apart hs (Int.le_refl _)
    rcases h1 with ⟨x, hx, h3, h4⟩ | ⟨h3, h4⟩
    · rcases h2 with ⟨y, hy, h5, h6⟩ | ⟨_, h6⟩
      · rw [h4, h6]
        congr 1
        apply Classical.byContradiction
        intro hne
        have h7 := ha.ap x ((hm x).2 hx) y hy hne
        unfold InW at h3 h5
        omega
      · exact absurd h3 (h6 x ((hm x).2 hx))
    · rcases h2 with ⟨y, hy, h5, _⟩ | ⟨h6, _⟩
      · exact absurd h5 (h4 y ((hm y).1 hy))
      · rw [h3, h6]
  · rw [List.getElem?_eq_none (by rw [h.len]; omega), List.getElem?_eq_none (by rw [ladW_len hs hl]; omega)]
/-! ### Room. -/
def rroom (sw : Bool) (n : Int) : List Int → Int → Int → Int
  | [], i, fr => if n ≤ i - fr then fr else -1
  | x :: l, i, fr => if sw = true ∧ n ≤ i + 1 - (if 0 ≤ x then i + 1 else fr) then (if 0 ≤ x then i + 1 else fr) else rroom sw n l (i + 1) (if 0 ≤ x then i + 1 else fr)
theorem rroom_cons (sw : Bool) (n x : Int) (l : List Int) (i fr : Int) : rroom sw n (x :: l) i fr = if sw = true ∧ n ≤ i + 1 - (if 0 ≤ x then i + 1 else fr) then (if 0 ≤ x then i + 1 else fr) else rroom sw n l (i + 1) (if 0 ≤ x then i + 1 else fr) := rfl
theorem rroom_neg {sw : Bool} {n : Int} (rest : List Int) : ∀ (m : Nat) (i fr : Int), (sw = true → i - fr < n) → rroom sw n (List.replicate m (-1) ++ rest) i fr = if sw = true ∧ n ≤ i + m - fr then fr else rroom sw n rest (i + m) fr := by
  intro m
  induction m with
  | zero =>
    intro i fr h
    rw [if_neg (fun hc => by have := h hc.1; have := hc.2; omega)]
    simp
  | succ m ih =>
    intro i fr h
    have e : (if (0 : Int) ≤ -1 then i + 1 else fr) = fr := if_neg (by omega)
    rw [List.replicate_succ, List.cons_append, rroom_cons, e]
    by_cases hc : sw = true ∧ n ≤ i + 1 - fr
    · rw [if_pos hc, if_pos ⟨hc.1, by omega⟩]
    · rw [if_neg hc, ih (i + 1) fr (fun h1 => by
        apply Classical.byContradiction
        intro h2
        exact hc ⟨h1, by omega⟩)]
      rw [show i + 1 + (m : Int) = i + ((m + 1 : Nat) : Int) by omega]
theorem rroom_own {sw : Bool} {n x : Int} (hn : 0 < n) (hx : 0 ≤ x) (rest : List Int) : ∀ (m : Nat) (i fr : Int), 0 < m → rroom sw n (List.replicate m x ++ rest) i fr = rroom sw n rest (i + m) (i + m) := by
  intro m
  induction m with
  | zero => intro i fr h; omega
  | succ m ih =>
    intro i fr _
    have e : (if 0 ≤ x then i + 1 else fr) = i + 1 := if_pos hx
    rw [List.replicate_succ, List.cons_append, rroom_cons, e, if_neg (fun hc => by have := hc.2; omega)]
    rcases Nat.eq_zero_or_pos m with rfl | hm
    · simp
    · rw [ih (i + 1) (i + 1) hm, show i + 1 + (m : Int) = i + ((m + 1 : Nat) : Int) by omega]
theorem rroom_lad {sw : Bool} {W n : Int} {f s : Int → Int} (hn : 0 < n) : ∀ {l : List Int} {b : Int}, (∀ x ∈ l, 0 < s x) → (∀ x ∈ l, 0 ≤ x) → Lad W f s b l → rroom sw n (ladW W f s b l) b b = roomG sw W n f s l b := by
  intro l
  induction l with
  | nil =>
    intro b _ _ h
    have hb : b ≤ W := by cases h; assumption
    have h1 := rroom_neg (sw := sw) (n := n) [] (W - b).toNat b b (fun _ => by omega)
    rw [List.append_nil] at h1
    unfold ladW roomG
    rw [h1, show b + ((W - b).toNat : Int) = W by omega]
    by_cases hc : n ≤ W - b
    · rw [if_pos hc]
      by_cases h2 : sw = true
      · rw [if_pos ⟨h2, hc⟩]
      · rw [if_neg (fun h => h2 h.1)]; unfold rroom; rw [if_pos hc]
    · rw [if_neg hc, if_neg (fun h => hc h.2)]; unfold rroom; rw [if_neg hc]
  | cons x l ih =>
    intro b hs h0 h
    cases h with
    | cons h1 h2 =>
      have h3 := hs x (List.mem_cons_self ..)
      unfold ladW
      rw [rroom_neg _ _ b b (fun _ => by omega), show b + ((f x - b).toNat : Int) = f x by omega, rroom_own hn (h0 x (List.mem_cons_self ..)) _ _ _ _ (by omega), show f x + ((s x).toNat : Int) = f x + s x by omega, ih (fun y hy => hs y (List.mem_cons_of_mem _ hy)) (fun y hy => h0 y (List.mem_cons_of_mem _ hy)) h2]
      conv => rhs; unfold roomG
/-! ### Standing. -/
def rstand (ws : List Int) (i : Int) (at_ : Nat) : Nat → List Int
  | 0 => ws
  | k + 1 => (rstand ws i at_ k).set (at_ + k) i
theorem rstand_len (ws : List Int) (i : Int) (at_ n : Nat) : (rstand ws i at_ n).length = ws.length := by
  induction n with
  | zero => rfl
  | succ n ih => unfold rstand; rw [List.length_set, ih]
theorem rstand_at (ws : List Int) (i : Int) (at_ n k : Nat) (h : at_ + n ≤ ws.length) : (rstand ws i at_ n)[k]? = if at_ ≤ k ∧ k < at_ + n then some i else ws[k]? := by
  induction n with
  | zero => rw [if_neg (by omega)]; rfl
  | succ n ih =>
    unfold rstand
    rw [List.getElem?_set, rstand_len, ih (by omega)]
    by_cases e : at_ + n = k
    · rw [if_pos e, if_pos (by omega), if_pos (by omega)]
    · rw [if_neg e]
      by_cases c : at_ ≤ k ∧ k < at_ + n
      · rw [if_pos c, if_pos (by omega)]
      · rw [if_neg c, if_neg (by omega)]
/-- One stands more. -/
theorem WOk.stand {W : Nat} {f s g t : Int → Int} {l m ws : List Int} (h : WOk W f s l ws) {x : Int} {p n : Nat} (hp : p + n ≤ W) (hg : g x = p) (ht : t x = n) (hfree : ∀ y ∈ l, (p : Int) + n ≤ f y ∨ f y + s y ≤ p)
    (hm : ∀ y, y ∈ m ↔ y = x ∨ y ∈ l) (ho : ∀ y ∈ l, g y = f y ∧ t y = s y) : WOk W g t m (rstand ws x p n) := by
  refine ⟨(rstand_len ..).trans h.len, fun k hk => ?_⟩
  rw [rstand_at _ _ _ _ _ (by rw [h.len]; exact hp)]
  unfold InW
  by_cases c : p ≤ k ∧ k < p + n
  · rw [if_pos c]
    exact .inl ⟨x, (hm x).2 (.inl rfl), by rw [hg, ht]; omega, rfl⟩
  · rw [if_neg c]
    rcases h.own k hk with ⟨y, hy, h1, h2⟩ | ⟨h1, h2⟩
    · refine .inl ⟨y, (hm y).2 (.inr hy), ?_, h2⟩
      rw [(ho y hy).1, (ho y hy).2]; exact h1
    · refine .inr ⟨h1, fun y hy => ?_⟩
      rcases (hm y).1 hy with rfl | hy
      · rw [hg, ht]; omega
      · rw [(ho y hy).1, (ho y hy).2]; exact h2 y hy
/-! ### Clearing up. -/
def rrowF (R : List Int) (row : List Int) (i : Int) : List Int := if 0 ≤ i ∧ i ∈ R ∧ i ∉ row then row ++ [i] else row
def rrow (R : List Int) (row ws : List Int) : List Int := ws.foldl (rrowF R) row
theorem rrow_app (R row a b : List Int) : rrow R row (a ++ b) = rrow R (rrow R row a) b := List.foldl_append ..
theorem rrow_neg (R row : List Int) (m : Nat) : rrow R row (List.replicate m (-1)) = row := by
  induction m with
  | zero => rfl
  | succ m ih =>
    rw [List.replicate_succ]
    show rrow R (rrowF R row (-1)) _ = row
    rw [show rrowF R row (-1) = row from if_neg (by omega)]
    exact ih
theorem rrow_own (R row : List Int) (x : Int) (hx : 0 ≤ x) (hn : x ∉ row) : ∀ m : Nat, 0 < m → rrow R row (List.replicate m x) = if x ∈ R then row ++ [x] else row := by
  have h2 : ∀ (m : Nat) (r : List Int), (x ∈ r ∨ x ∉ R) → rrow R r (List.replicate m x) = r := by
    intro m
    induction m with
    | zero => exact fun _ _ => rfl
    | succ m ih =>
      intro r h
      rw [List.replicate_succ]
      show rrow R (rrowF R r x) _ = r
      rw [show rrowF R r x = r from if_neg (fun hc => by rcases h with h | h; exact hc.2.2 h; exact h hc.2.1)]
      exact ih r h
  intro m hm
  obtain ⟨k, rfl⟩ : ∃ k, m = k + 1 := ⟨m - 1, by omega⟩
  rw [List.replicate_succ]
  show rrow R (rrowF R row x) _ = _
  unfold rrowF
  by_cases hR : x ∈ R
  · rw [if_pos ⟨hx, hR, hn⟩, if_pos hR]
    exact h2 k _ (.inl (by simp))
  · rw [if_neg (fun h => hR h.2.1), if_neg hR]
    exact h2 k _ (.inr hR)
theorem rrow_lad {R : List Int} {W : Int} {f s : Int → Int} : ∀ {l : List Int} {b : Int} {row : List Int}, (∀ x ∈ l, 0 < s x) → (∀ x ∈ l, 0 ≤ x) → l.Nodup → (∀ x ∈ l, x ∉ row) → rrow R row (ladW W f s b l) = row ++ l.filter fun x => decide (x ∈ R) := by
  intro l
  induction l with
  | nil => intro b row _ _ _ _; unfold ladW; rw [rrow_neg]; simp
  | cons x l ih =>
    intro b row hs h0 hn hr
    obtain ⟨n1, n2⟩ := List.nodup_cons.1 hn
    have h3 := hs x (List.mem_cons_self ..)
    unfold ladW
    rw [rrow_app, rrow_neg, rrow_app, rrow_own _ _ _ (h0 x (List.mem_cons_self ..)) (hr x (List.mem_cons_self ..)) _ (by omega), List.filter_cons]
    by_cases hR : x ∈ R
    · rw [if_pos hR, if_pos (by simpa using hR), ih (fun y hy => hs y (List.mem_cons_of_mem _ hy)) (fun y hy => h0 y (List.mem_cons_of_mem _ hy)) n2 (fun y hy => by
        rw [List.mem_append, List.mem_singleton]
        rintro (h | rfl)
        · exact hr y (List.mem_cons_of_mem _ hy) h
        · exact n1 hy)]
      simp
    · rw [if_neg hR, if_neg (by simpa using hR), ih (fun y hy => hs y (List.mem_cons_of_mem _ hy)) (fun y hy => h0 y (List.mem_cons_of_mem _ hy)) n2 fun y hy => hr y (List.mem_cons_of_mem _ hy)]
def rdrop (R : List Int) (ws : List Int) : List Int := ws.map fun i => if 0 ≤ i ∧ i ∉ R then -1 else i
theorem WOk.drop {W : Nat} {f s t : Int → Int} {l m R ws : List Int} (h : WOk W f s l ws) (h0 : ∀ x ∈ l, 0 ≤ x) (hm : ∀ x, x ∈ m ↔ x ∈ l ∧ x ∈ R) (ht : ∀ x ∈ m, t x = s x)
    (ha : ∀ x ∈ l, ∀ y ∈ l, x ≠ y → f x + s x ≤ f y ∨ f y + s y ≤ f x) : WOk W f t m (rdrop R ws) := by
  refine ⟨by unfold rdrop; rw [List.length_map]; exact h.len, fun k hk => ?_⟩
  unfold rdrop
  rw [List.getElem?_map]
  rcases h.own k hk with ⟨x, hx, h1, h2⟩ | ⟨h1, h2⟩
  · rw [h2, Option.map_some]
    by_cases hR : x ∈ R
    · rw [if_neg (fun hc => hc.2 hR)]
      have hxm := (hm x).2 ⟨hx, hR⟩
      exact .inl ⟨x, hxm, by unfold InW at h1 ⊢; rw [ht x hxm]; exact h1, rfl⟩
    · rw [if_pos ⟨h0 x hx, hR⟩]
      refine .inr ⟨rfl, fun y hy hin => ?_⟩
      obtain ⟨hyl, hyR⟩ := (hm y).1 hy
      unfold InW at h1 hin
      rw [ht y hy] at hin
      have := ha x hx y hyl (by rintro rfl; exact hR hyR)
      omega
  · rw [h1, Option.map_some, if_neg (by omega)]
    refine .inr ⟨rfl, fun y hy => ?_⟩
    have h3 := h2 y ((hm y).1 hy).1
    unfold InW at h3 ⊢
    rw [ht y hy]; exact h3
/-- One behind the other. -/
def rstands (s : Int → Int) : List Int → Nat → List Int → List Int
  | [], _, ws => ws
  | x :: l, at_, ws => rstands s l (at_ + (s x).toNat) (rstand ws x at_ (s x).toNat)
theorem WOk.stands {W : Nat} {f s : Int → Int} : ∀ {m l ws : List Int} {b : Nat}, (∀ x ∈ m, 0 < s x) → WOk W f s l ws → Pk f s b m → (b : Int) + (m.map s).sum ≤ W → (∀ x ∈ l, f x + s x ≤ b) → WOk W f s (l ++ m) (rstands s m b ws) := by
  intro m
  induction m with
  | nil => intro l ws b _ h _ _ _; rw [List.append_nil]; exact h
  | cons x m ih =>
    intro l ws b hs h hp hw hl
    cases hp with
    | cons h1 h2 =>
      have h3 := hs x (List.mem_cons_self ..)
      have hs' : ∀ y ∈ m, 0 < s y := fun y hy => hs y (List.mem_cons_of_mem _ hy)
      have h4 : 0 ≤ (m.map s).sum := by
        have key : ∀ m : List Int, (∀ y ∈ m, 0 < s y) → 0 ≤ (m.map s).sum := by
          intro m
          induction m with
          | nil => intro _; exact Int.le_refl _
          | cons y m ih => intro h; have := ih fun z hz => h z (List.mem_cons_of_mem _ hz); have := h y (List.mem_cons_self ..); simp only [List.map_cons, List.sum_cons]; omega
        exact key m hs'
      simp only [List.map_cons, List.sum_cons] at hw
      unfold rstands
      have h5 := h.stand (g := f) (t := s) (m := l ++ [x]) (x := x) (p := b) (n := (s x).toNat) (by omega) h1 (by omega) (fun y hy => .inr (hl y hy)) (fun y => by simp [or_comm]) (fun y _ => ⟨rfl, rfl⟩)
      have h6 := ih (l := l ++ [x]) (b := b + (s x).toNat) hs' h5 (by rw [show ((b + (s x).toNat : Nat) : Int) = b + s x by omega]; exact h2) (by omega) (fun y hy => by
        rcases List.mem_append.1 hy with hy | hy
        · have := hl y hy; omega
        · obtain rfl := List.mem_singleton.1 hy; omega)
      rwa [List.append_assoc] at h6
theorem wok_none (W : Nat) (f s : Int → Int) : WOk W f s [] (List.replicate W (-1)) := ⟨List.length_replicate, fun k hk => .inr ⟨by rw [List.getElem?_replicate, if_pos hk], fun x hx => by cases hx⟩⟩
theorem WOk.mem {W : Nat} {f s : Int → Int} {l m ws : List Int} (h : WOk W f s l ws) (hm : ∀ x, x ∈ m ↔ x ∈ l) : WOk W f s m ws :=
  ⟨h.len, fun k hk => by
    rcases h.own k hk with ⟨x, hx, h1, h2⟩ | ⟨h1, h2⟩
    · exact .inl ⟨x, (hm x).2 hx, h1, h2⟩
    · exact .inr ⟨h1, fun x hx => h2 x ((hm x).1 hx)⟩⟩
theorem WOk.congr {W : Nat} {f s g t : Int → Int} {l ws : List Int} (h : WOk W f s l ws) (ho : ∀ y ∈ l, g y = f y ∧ t y = s y) : WOk W g t l ws :=
  ⟨h.len, fun k hk => by
    rcases h.own k hk with ⟨x, hx, h1, h2⟩ | ⟨h1, h2⟩
    · exact .inl ⟨x, hx, by unfold InW; rw [(ho x hx).1, (ho x hx).2]; exact h1, h2⟩
    · exact .inr ⟨h1, fun x hx => by unfold InW; rw [(ho x hx).1, (ho x hx).2]; exact h2 x hx⟩⟩
end Go.Proofs.Ytjphckfbbiehdaa
