/- The reference of a memory with so many words: what it has in memory; where there is room; an object stands at a place. The reference of a memory with so many words: all is cleared up. The reference of a memory with so many words: a step. -/
import Derived.Test.YtjphckfbbiehdaaGTopIdeal5
import Derived.Test.YtjphckfbbiehdaaGIdealPlays17
import Derived.Test.YtjphckfbbiehdaaGTopIdeal3
import Derived.Test.YtjphckfbbiehdaaGTriPlays0
import Derived.Deep.RegionHeld3
import Derived.Deep.DeepCutAuto
import Derived.Test.YtjphckfbbiehdaaGIdealPlays12
import Derived.Test.YtjphckfbbiehdaaGIdealPlays10
import Derived.Test.YtjphckfbbiehdaaGIdealPlays9
set_option linter.unusedSimpArgs false
set_option linter.unusedVariables false
namespace Go.Proofs.Ytjphckfbbiehdaa
open Go.RowKit

structure RrT where
  s : RMem
  gw : Nat
  cw : Nat
  ws : List Int
  times : Int
def RrT.a (t : RrT) : RrA := ⟨absR t.s, t.ws, t.times⟩
def rrL (Br Bm : Nat) (c : Int) (t : RrT) : List Item := [blkI Br 162 #[.pointer (some ⟨Bm, 0, none⟩), .slice (some ⟨t.gw, 0, none⟩) t.ws.length t.cw, .int .i64 c, .int .i64 t.times], rowI 3 1 (some ⟨t.gw, 0, none⟩) t.ws.length t.cw (ints t.ws), rmI Bm t.s]
def RrT.w_ (t : RrT) (l : List Int) : RrT := { t with ws := l }
def RrT.tm (t : RrT) (x : Int) : RrT := { t with times := x }
theorem rr_cells {F : Nat → Prop} {W0 w : World} {Br Bm : Nat} {c : Int} {t : RrT} {pre L : List Item} (hS : Sep F W0 w (pre ++ (rrL Br Bm c t ++ L))) :
    w.cell? ⟨Br, 0, none⟩ = some (.pointer (some ⟨Bm, 0, none⟩)) ∧ w.cell? ⟨Br, 1, none⟩ = some (.slice (some ⟨t.gw, 0, none⟩) t.ws.length t.cw) ∧ w.cell? ⟨Br, 2, none⟩ = some (.int .i64 c) ∧ w.cell? ⟨Br, 3, none⟩ = some (.int .i64 t.times) ∧ (∀ i, w.frozen? ⟨Br, i, none⟩ = false) ∧ Br < w.heap.size ∧ (∀ (k : Nat) (x : Int), t.ws[k]? = some x → w.cell? ⟨t.gw, k, none⟩ = some (.int .i64 x) ∧ w.frozen? ⟨t.gw, k, none⟩ = false) ∧ t.gw < w.heap.size ∧ t.gw ≠ Br ∧ (rmI Bm t.s).P w := by
  have g0 : (pre ++ (rrL Br Bm c t ++ L))[pre.length]? = some (blkI Br 162 #[.pointer (some ⟨Bm, 0, none⟩), .slice (some ⟨t.gw, 0, none⟩) t.ws.length t.cw, .int .i64 c, .int .i64 t.times]) := by rw [List.getElem?_append_right (Nat.le_refl _)]; simp [rrL]
  have g1 : (pre ++ (rrL Br Bm c t ++ L))[pre.length + 1]? = some (rowI 3 1 (some ⟨t.gw, 0, none⟩) t.ws.length t.cw (ints t.ws)) := by rw [List.getElem?_append_right (by omega)]; simp [rrL]
  have g2 : (pre ++ (rrL Br Bm c t ++ L))[pre.length + 2]? = some (rmI Bm t.s) := by rw [List.getElem?_append_right (by omega)]; simp [rrL]
  obtain ⟨c1, c2, c3, _⟩ := hS.rules _ g0
  have hrow : w.ownsRow 0 3 1 (.slice (some ⟨t.gw, 0, none⟩) t.ws.length t.cw) t.ws.length (ints t.ws) := hS.get _ g1
  refine ⟨(c1 0).trans rfl, (c1 1).trans rfl, (c1 2).trans rfl, (c1 3).trans rfl, c2, c3, fun k x hx => ⟨?_, hrow.frozenAt k⟩, hS.hi _ g1 _ rfl, fun e => hS.other g1 g0 (by omega) t.gw rfl e, hS.get _ g2⟩
  obtain ⟨hk, rfl⟩ := List.getElem?_eq_some_iff.1 hx
  rw [hrow.cellAt k (by omega)]
  simp [ints, List.getElem?_eq_getElem hk]

set_option maxRecDepth 100000 in
set_option maxHeartbeats 16000000 in
theorem rrRoom_any {F : Nat → Prop} {W0 w : World} {Br Bm : Nat} {c : Int} {t : RrT} {L : List Item} (hS : Sep F W0 w (rrL Br Bm c t ++ L)) (hl : t.ws.length ≤ 256) (n : Int) (h1 : 1 ≤ n) (h5 : n ≤ 5) :
    Calls Try.prog 134 #[.pointer (some ⟨Br, 0, none⟩), .int .i64 n] w fun e w' => e = .returned (.int .i64 (rroom (decide (c = 1)) n t.ws 0 0)) ∧ w' = w := by
  obtain ⟨-, k1, k2, -, -, k5, k6, k7, -, -⟩ := rr_cells (pre := []) hS
  obtain ⟨res, hres⟩ : ∃ r, rroom (decide (c = 1)) n t.ws 0 0 = r := ⟨_, rfl⟩
  rw [hres]
  obtain ⟨ws, hws⟩ : ∃ l, t.ws = l := ⟨_, rfl⟩
  rw [hws] at hres hl
  simp only [hws] at k1 k6
  obtain ⟨gw, hgw⟩ : ∃ l, t.gw = l := ⟨_, rfl⟩
  obtain ⟨cw, hcw⟩ : ∃ l, t.cw = l := ⟨_, rfl⟩
  rw [hgw, hcw] at k1
  rw [hgw] at k7
  simp only [hgw] at k6
  obtain ⟨N, hN⟩ : ∃ l, ws.length = l := ⟨_, rfl⟩
  rw [hN] at k1 hl
  have HN := hide hN
  have HK6 := hide k6
  have HRES := hide hres
  clear hS hws hgw hcw hN hres k6
  go_enter Try.func134, Try.ntmps134
  go_wp2_with fail
  go_loopw [5, 6] (fun f i wr => wr = w ∧ ∃ (k : Nat) (fr : Int), k ≤ N ∧ i = .int .i64 k ∧ f = .int .i64 fr ∧ 0 ≤ fr ∧ fr ≤ (k : Int) ∧ Hid (rroom (decide (c = 1)) n (ws.drop k) k fr = res)) (fun _ i _ => N - (intOf i).toNat)
  case atStart => exact ⟨rfl, 0, 0, by omega, rfl, rfl, by omega, by omega, HRES.out⟩
  case round =>
    obtain ⟨rfl, k, fr, hk, rfl, rfl, f0, f1, HG⟩ := hrel
    by_cases hlt : k < N
    · have hkl : k < ws.length := by rw [HN.out]; exact hlt
      obtain ⟨e0, -⟩ := HK6.out k _ (List.getElem?_eq_getElem hkl)
      have hg := HG.out
      rw [List.drop_eq_getElem_cons hkl, rroom_cons] at hg
      obtain ⟨x, hx⟩ : ∃ x, ws[k] = x := ⟨_, rfl⟩
      rw [hx] at e0 hg
      have w1' : IntKind.i64.wrap ((k : Int) + 1) = ((k + 1 : Nat) : Int) := by rw [wrap64 _ (by omega) (by omega)]; omega
      clear hx HG
      by_cases hx0 : 0 ≤ x
      · have t1 : decide (0 ≤ x) = true := by simp [hx0]
        rw [if_pos hx0] at hg
        have w2' : IntKind.i64.wrap (((k + 1 : Nat) : Int) - ((k + 1 : Nat) : Int)) = 0 := by rw [wrap64 _ (by omega) (by omega)]; omega
        have t2 : decide (n ≤ 0) = false := by simp; omega
        have HG2 := hide (show rroom (decide (c = 1)) n (ws.drop (k + 1)) ((k + 1 : Nat) : Int) ((k + 1 : Nat) : Int) = res from by
          rw [if_neg (fun h => by have := h.2; omega)] at hg
          rw [show ((k + 1 : Nat) : Int) = (k : Int) + 1 from by omega]; exact hg)
        clear hg hx0
        by_cases hc1 : c = 1
        · subst hc1
          go_wp2_with fail
          go_roundw
          case rel => exact ⟨by first | trivial | rfl, k + 1, ((k + 1 : Nat) : Int), by omega, by go_num, by go_num, by omega, by omega, HG2.out⟩
          case measure => simp [intOf]; omega
        · have yc : (c == 1) = false := by simp [hc1]
          clear hc1
          go_wp2_with fail
          go_roundw
          case rel => exact ⟨by first | trivial | rfl, k + 1, ((k + 1 : Nat) : Int), by omega, by go_num, by go_num, by omega, by omega, HG2.out⟩
          case measure => simp [intOf]; omega
      · have t1 : decide (0 ≤ x) = false := by simp only [hx0, decide_false]
        rw [if_neg hx0] at hg
        have w2' : IntKind.i64.wrap ((k : Int) + 1 - fr) = (k : Int) + 1 - fr := wrap64 _ (by omega) (by omega)
        by_cases hc1 : c = 1
        · subst hc1
          by_cases hle : n ≤ (k : Int) + 1 - fr
          · have t2 : decide (n ≤ (k : Int) + 1 - fr) = true := by simp [hle]
            rw [if_pos ⟨rfl, hle⟩] at hg
            subst hg
            clear hle hx0
            go_wp2_with fail
            go_ret
            exact ⟨rfl, rfl⟩
          · have t2 : decide (n ≤ (k : Int) + 1 - fr) = false := by simp only [hle, decide_false]
            rw [if_neg (fun h => hle h.2)] at hg
            have HG2 := hide (show rroom (decide ((1 : Int) = 1)) n (ws.drop (k + 1)) ((k + 1 : Nat) : Int) fr = res from by rw [show ((k + 1 : Nat) : Int) = (k : Int) + 1 from by omega]; exact hg)
            clear hle hx0 hg
            go_wp2_with fail
            go_roundw
            case rel => exact ⟨by first | trivial | rfl, k + 1, fr, by omega, by go_num, rfl, f0, by omega, HG2.out⟩
            case measure => simp [intOf]; omega
        · have yc : (c == 1) = false := by simp [hc1]
          rw [if_neg (fun h => hc1 (by simpa using h.1))] at hg
          have HG2 := hide (show rroom (decide (c = 1)) n (ws.drop (k + 1)) ((k + 1 : Nat) : Int) fr = res from by rw [show ((k + 1 : Nat) : Int) = (k : Int) + 1 from by omega]; exact hg)
          clear hx0 hg hc1
          go_wp2_with fail
          go_roundw
          case rel => exact ⟨by first | trivial | rfl, k + 1, fr, by omega, by go_num, rfl, f0, by omega, HG2.out⟩
          case measure => simp [intOf]; omega
    · obtain rfl : k = N := by omega
      have hg := HG.out
      rw [List.drop_of_length_le (by rw [HN.out]; exact Nat.le_refl _)] at hg
      unfold rroom at hg
      obtain ⟨df, hdf⟩ : ∃ q, (k : Int) - fr = q := ⟨_, rfl⟩
      have w2' : IntKind.i64.wrap ((k : Int) - fr) = df := by rw [wrap64 _ (by omega) (by omega)]; exact hdf
      rw [hdf] at hg
      clear hdf HG
      by_cases hle : n ≤ df
      · have t2 : decide (n ≤ df) = true := by simp [hle]
        rw [if_pos hle] at hg
        subst hg
        clear hle
        go_wp2_with fail
        go_ret
        exact ⟨rfl, rfl⟩
      · have t2 : decide (n ≤ df) = false := by simp only [hle, decide_false]
        rw [if_neg hle] at hg
        subst hg
        clear hle
        go_wp2_with fail
        go_ret
        exact ⟨rfl, rfl⟩

set_option maxRecDepth 100000 in
set_option maxHeartbeats 16000000 in
theorem rrStand_any {F : Nat → Prop} {W0 w : World} {Br Bm : Nat} {c : Int} {t : RrT} {pre L : List Item} (hS : Sep F W0 w (pre ++ (rrL Br Bm c t ++ L))) (hl : t.ws.length ≤ 256) (i p : Nat) (hi : i < t.s.obs.length) (hn9 : t.s.obs.length ≤ 600) (h4 : t.s.obs[i].n ≤ 4) (hp : p + 1 + t.s.obs[i].n ≤ t.ws.length) :
    Calls Try.prog 135 #[.pointer (some ⟨Br, 0, none⟩), .int .i64 i, .int .i64 p] w fun e w' => e = .returned (.int .i64 ((p : Int) + 1 + (t.s.obs[i].n : Int))) ∧ Sep F W0 w' (pre ++ (rrL Br Bm c (t.w_ (rstand t.ws i p (1 + t.s.obs[i].n))) ++ L)) := by
  obtain ⟨m, hm⟩ : ∃ m, t.s.obs[i].n = m := ⟨_, rfl⟩
  have HOB := hide (fun (X : World) (hP : (rmI Bm t.s).P X) => (show ∃ ga, X.cell? ⟨Bm, 1, none⟩ = some (.slice (some ⟨ga, 0, none⟩) t.s.obs.length t.s.co) ∧ (∃ A c, X.cell? ⟨ga, i, none⟩ = some (.slice A m c)) ∧ ga < X.heap.size ∧ Bm < X.heap.size from by
    obtain ⟨ga, hga, h1, h2⟩ := rm_ob hP hi
    obtain ⟨_, h3, _, h4, _⟩ := rm_mem hP
    rw [hga] at h3
    rw [hm] at h1
    exact ⟨ga, h3, ⟨_, _, h1⟩, h2, h4⟩))
  rw [hm] at h4 hp ⊢
  have HS := hide hS
  have HST := hide (show rstand t.ws i p 0 = t.ws from rfl)
  have HCE := hide (fun (X : World) (l : List Int) (hX : Sep F W0 X (pre ++ (rrL Br Bm c (t.w_ l) ++ L))) => rr_cells hX)
  have HSET := hide (fun (X : World) (l : List Int) (j : Nat) (hX : Sep F W0 X (pre ++ (rrL Br Bm c (t.w_ l) ++ L))) => (show Sep F W0 (X.setCell ⟨t.gw, j, none⟩ (.int .i64 i)) (pre ++ (rrL Br Bm c (t.w_ (l.set j i)) ++ L)) from by
    have h1 := hX.store (pre.length + 1) (g := t.gw) (by rw [List.getElem?_append_right (by omega)]; simp [rrL, RrT.w_]; rfl) j (.int .i64 i)
    have e : (pre ++ (rrL Br Bm c (t.w_ l) ++ L)).set (pre.length + 1) (rowI 3 1 (some ⟨t.gw, 0, none⟩) l.length t.cw ((ints l).set j (.int .i64 i))) = pre ++ (rrL Br Bm c (t.w_ (l.set j i)) ++ L) := by
      rw [List.set_append_right _ _ (by omega), ints_setC]
      simp [rrL, RrT.w_, List.length_set]
    rw [← e]
    exact h1))
  obtain ⟨nO, hnO⟩ : ∃ q, t.s.obs.length = q := ⟨_, rfl⟩
  rw [hnO] at hn9
  simp only [hnO] at HOB
  have hin : i < nO := by rw [← hnO]; exact hi
  obtain ⟨co, hco⟩ : ∃ q, t.s.co = q := ⟨_, rfl⟩
  simp only [hco] at HOB
  obtain ⟨N, hN⟩ : ∃ q, t.ws.length = q := ⟨_, rfl⟩
  rw [hN] at hl hp
  have HN := hide hN
  obtain ⟨gw, hgw⟩ : ∃ q, t.gw = q := ⟨_, rfl⟩
  have HGW := hide hgw
  obtain ⟨cw, hcw⟩ : ∃ q, t.cw = q := ⟨_, rfl⟩
  have HCW := hide hcw
  clear hS hm hi hnO hco hN hgw hcw
  go_enter Try.func135, Try.ntmps135
  go_wp2_with fail
  go_loopw [7] (fun j wr => ∃ (k : Nat), k ≤ m + 1 ∧ j = .int .i64 k ∧ Sep F W0 wr (pre ++ (rrL Br Bm c (t.w_ (rstand t.ws i p k)) ++ L))) (fun j _ => m + 1 - (intOf j).toNat)
  case atStart => exact ⟨0, by omega, rfl, HS.out⟩
  case round =>
    clear HS
    obtain ⟨k, hk, rfl, hS⟩ := hrel
    obtain ⟨k0, k1, -, -, -, k5, k6, k7, k8, k9⟩ := HCE.out wr _ hS
    obtain ⟨ga, g1, ⟨oA, oc, g2⟩, g3, g4⟩ := HOB.out wr k9
    have hln : (rstand t.ws i p k).length = N := by rw [rstand_len]; exact HN.out
    have k1' : wr.cell? ⟨Br, 1, none⟩ = some (.slice (some ⟨t.gw, 0, none⟩) (rstand t.ws i p k).length t.cw) := k1
    rw [hln, HGW.out, HCW.out] at k1'
    have k7' : gw < wr.heap.size := by rw [← HGW.out]; exact k7
    have t1 : decide ((i : Int) < 0) = false := by simp
    have t2 : decide ((nO : Int) ≤ (i : Int)) = false := by simp; omega
    by_cases hlt : k < m + 1
    · have hpk : p + k < (rstand t.ws i p k).length := by rw [hln]; omega
      obtain ⟨q1, q2⟩ := k6 (p + k) _ (List.getElem?_eq_getElem hpk)
      have q1' : wr.cell? ⟨gw, p + k, none⟩ = some (.int .i64 (rstand t.ws i p k)[p + k]) := by rw [← HGW.out]; exact q1
      have q2' : wr.frozen? ⟨gw, p + k, none⟩ = false := by rw [← HGW.out]; exact q2
      obtain ⟨x, hx⟩ : ∃ x, (rstand t.ws i p k)[p + k] = x := ⟨_, rfl⟩
      rw [hx] at q1'
      have w1' : IntKind.i64.wrap ((p : Int) + (k : Int)) = ((p + k : Nat) : Int) := by rw [wrap64 _ (by omega) (by omega)]; omega
      have t3 : decide ((k : Int) ≤ (m : Int)) = true := by simp; omega
      have t4 : decide (k ≤ m) = true := by simp; omega
      have HF := hide (HSET.out wr _ (p + k) hS)
      rw [HGW.out] at HF
      clear k1 k6 k7 k8 k9 hx q1 q2 hS hln hpk
      go_wp2_with fail
      go_roundw
      case rel => exact ⟨k + 1, by omega, by go_num, HF.out⟩
      case measure => simp [intOf]; omega
    · obtain rfl : k = m + 1 := by omega
      have t3 : decide (((m + 1 : Nat) : Int) ≤ (m : Int)) = false := by simp; omega
      have t4 : decide (m + 1 ≤ m) = false := by simp
      have w1' : IntKind.i64.wrap ((p : Int) + 1) = (p : Int) + 1 := wrap64 _ (by omega) (by omega)
      have w2' : IntKind.i64.wrap ((p : Int) + 1 + (m : Int)) = (p : Int) + 1 + (m : Int) := wrap64 _ (by omega) (by omega)
      have HSF := hide hS
      clear k1 k6 k7 k8 k9 hS hln
      go_wp2_with fail
      go_ret
      exact ⟨rfl, by rw [Nat.add_comm 1 m]; exact HSF.out⟩
end Go.Proofs.Ytjphckfbbiehdaa

namespace Go.Proofs.Ytjphckfbbiehdaa
open Go.RowKit

set_option maxRecDepth 100000 in
set_option maxHeartbeats 4000000 in
theorem rreached_any {Bm : Nat} {s : RMem} {w : World} (hP : (rmI Bm s).P w) (ok : ROk s) :
    Calls Try.prog 174 #[.pointer (some ⟨Bm, 0, none⟩)] w fun e w' => ∃ A n c, e = .returned (.slice A n c) ∧ Sep No w w' [rowI 3 1 A n c (ints (reachR (absR s).objs (absR s).regs))] := by
  obtain ⟨hO, hR⟩ := rm_obsRd hP
  have hb : Below w.heap.size w w.drew := (Below.refl _ w).drew
  have hG := graphRd_of (cO := s.co) (hO.below hb) (cR := s.cR) (hR.below hb)
  have hf4 := ok.m.f4
  have hn := ok.n
  have h8 := ok.m.r8
  have C := hide (reach_any w.drew _ (s.obs.map Ob.fields) s.regs hG (by rw [List.length_map]; omega) (by have : s.regs.length = 8 := h8; omega) (fun fs hfs => by have := hf4 fs hfs; omega))
  obtain ⟨m0, m1, _, m3, _⟩ := rm_mem hP
  have hR2 : reachR (absR s).objs (absR s).regs = reachR (s.obs.map Ob.fields) s.regs := rfl
  rw [hR2]
  obtain ⟨R, hRR⟩ : ∃ R, reachR (s.obs.map Ob.fields) s.regs = R := ⟨_, rfl⟩
  rw [hRR] at C ⊢
  clear hO hR hG hf4 hn h8 hP ok hR2 hRR hb
  go_enter Try.func174, Try.ntmps174
  go_wp2_with fail
  go_region_held3 (fun w' => w'.cell? ⟨Bm, 0, none⟩ = some (.slice (some ⟨s.gr, 0, none⟩) s.regs.length s.cR) ∧ w'.cell? ⟨Bm, 1, none⟩ = some (.slice s.Ao s.obs.length s.co)) (first | go_keep | (simp only [World.cell?_drew]; assumption) | assumption)
    ((go_at_call 191; (with_reducible refine C.out.mono ?_); rintro e w2 ⟨A, n, c, rfl, hP2⟩; have HP2 := hide hP2; have hb2 := hP2.below_; have q0 := (World.cell?_of_block (a := ⟨Bm, 0, none⟩) (hb2.block Bm m3)).trans m0; have q1 := (World.cell?_of_block (a := ⟨Bm, 1, none⟩) (hb2.block Bm m3)).trans m1; clear hP2 hb2))
  all_goals
    go_wp2_with fail
    go_ret
    have h := HP2.out
    exact ⟨A, n, c, rfl, ⟨Chg.trans ((Chg.refl No w).drew) h.bel (fun g hg => hg.elim), h.all, h.own, h.apart⟩⟩

def fdrop (R : List Int) (i : Int) : Int := if 0 ≤ i ∧ i ∉ R then -1 else i
def rdropK (R ws : List Int) (k : Nat) : List Int := (ws.take k).map (fdrop R) ++ ws.drop k
theorem rdropK_len (R ws : List Int) (k : Nat) : (rdropK R ws k).length = ws.length := by
  unfold rdropK; rw [List.length_append, List.length_map, List.length_take, List.length_drop]; omega
theorem rdropK_get (R ws : List Int) (k j : Nat) : (rdropK R ws k)[j]? = if j < k then (ws[j]?).map (fdrop R) else ws[j]? := by
  unfold rdropK
  by_cases hk : k ≤ ws.length
  · have hl : ((ws.take k).map (fdrop R)).length = k := by rw [List.length_map, List.length_take]; omega
    by_cases h : j < k
    · rw [List.getElem?_append_left (by omega), List.getElem?_map, List.getElem?_take, if_pos h, if_pos h]
    · rw [List.getElem?_append_right (by omega), List.getElem?_drop, hl, if_neg h, show k + (j - k) = j by omega]
  · have e1 : ws.take k = ws := List.take_of_length_le (by omega)
    have e2 : ws.drop k = [] := List.drop_of_length_le (by omega)
    rw [e1, e2, List.append_nil, List.getElem?_map]
    by_cases h : j < k
    · rw [if_pos h]
    · rw [if_neg h, List.getElem?_eq_none (by omega)]; rfl
theorem rdropK_succ (R ws : List Int) {k : Nat} {x : Int} (hx : ws[k]? = some x) : rdropK R ws (k + 1) = (rdropK R ws k).set k (fdrop R x) := by
  refine List.ext_getElem? fun j => ?_
  rw [List.getElem?_set, rdropK_get, rdropK_get, rdropK_len]
  have hk := (List.getElem?_eq_some_iff.1 hx).1
  by_cases e : k = j
  · subst e
    rw [if_pos (by omega), if_pos rfl, if_pos hk, hx]; rfl
  · rw [if_neg e]
    by_cases h : j < k
    · rw [if_pos (by omega), if_pos h]
    · rw [if_neg (by omega), if_neg h]
theorem rdropK_same (R ws : List Int) {k : Nat} {x : Int} (hx : ws[k]? = some x) (hf : fdrop R x = x) : rdropK R ws (k + 1) = rdropK R ws k := by
  rw [rdropK_succ R ws hx, hf]
  refine List.ext_getElem? fun j => ?_
  rw [List.getElem?_set, rdropK_len]
  by_cases e : k = j
  · subst e
    rw [if_pos rfl, if_pos (List.getElem?_eq_some_iff.1 hx).1, rdropK_get, if_neg (by omega), hx]
  · rw [if_neg e]
theorem rdropK_all (R ws : List Int) {k : Nat} (hk : ws.length ≤ k) : rdropK R ws k = rdrop R ws := by
  unfold rdropK rdrop
  rw [List.take_of_length_le hk, List.drop_of_length_le hk, List.append_nil]
  rfl
theorem rrow_take (R ws : List Int) {k : Nat} {x : Int} (hx : ws[k]? = some x) : rrow R [] (ws.take (k + 1)) = rrowF R (rrow R [] (ws.take k)) x := by
  obtain ⟨hk, rfl⟩ := List.getElem?_eq_some_iff.1 hx
  rw [List.take_succ_eq_append_getElem hk, rrow_app]
  rfl
theorem rrow_len (R : List Int) : ∀ (ws row : List Int), (rrow R row ws).length ≤ row.length + ws.length := by
  intro ws
  induction ws with
  | nil => intro row; exact Nat.le_refl _
  | cons x ws ih =>
    intro row
    show (rrow R (rrowF R row x) ws).length ≤ _
    have h1 := ih (rrowF R row x)
    have h2 : (rrowF R row x).length ≤ row.length + 1 := by
      unfold rrowF
      split
      · simp
      · omega
    rw [List.length_cons]; omega
def negK (l : List Int) (k : Nat) : List Int := List.replicate k (-1) ++ l.drop k
theorem negK_len (l : List Int) {k : Nat} (hk : k ≤ l.length) : (negK l k).length = l.length := by
  unfold negK; rw [List.length_append, List.length_replicate, List.length_drop]; omega
theorem negK_succ (l : List Int) {k : Nat} (hk : k < l.length) : negK l (k + 1) = (negK l k).set k (-1) := by
  unfold negK
  rw [List.set_append_right _ _ (by simp), List.length_replicate, Nat.sub_self, List.drop_eq_getElem_cons hk, List.set_cons_zero, List.replicate_succ', List.append_assoc]
  rfl
theorem negK_all (l : List Int) : negK l l.length = List.replicate l.length (-1) := by unfold negK; simp
theorem rstands_cons (s : Int → Int) (x : Int) (l : List Int) (p : Nat) (ws : List Int) : rstands s (x :: l) p ws = rstands s l (p + (s x).toNat) (rstand ws x p (s x).toNat) := rfl
theorem reach_ok' (gs : List (List Val)) (vs : List Val) : (reachR gs vs).length ≤ gs.length := by
  unfold reachR
  rw [List.length_map]
  have := List.length_filter_le (fun (i : Nat) => decide (0 ≤ (distR gs vs).getD i 0)) (List.range gs.length)
  simpa using this
theorem rr_store {F : Nat → Prop} {W0 X : World} {Br Bm : Nat} {c : Int} {t : RrT} {pre L : List Item} {l : List Int} (hX : Sep F W0 X (pre ++ (rrL Br Bm c (t.w_ l) ++ L))) (j : Nat) (y : Int) :
    Sep F W0 (X.setCell ⟨t.gw, j, none⟩ (.int .i64 y)) (pre ++ (rrL Br Bm c (t.w_ (l.set j y)) ++ L)) := by
  have h1 := hX.store (pre.length + 1) (g := t.gw) (by rw [List.getElem?_append_right (by omega)]; simp [rrL, RrT.w_]; rfl) j (.int .i64 y)
  have e : (pre ++ (rrL Br Bm c (t.w_ l) ++ L)).set (pre.length + 1) (rowI 3 1 (some ⟨t.gw, 0, none⟩) l.length t.cw ((ints l).set j (.int .i64 y))) = pre ++ (rrL Br Bm c (t.w_ (l.set j y)) ++ L) := by
    rw [List.set_append_right _ _ (by omega), ints_setC]
    simp [rrL, RrT.w_, List.length_set]
  rw [← e]
  exact h1
theorem rr_szp {Bm : Nat} {t : RrT} {w : World} (hP : (rmI Bm t.s).P w) {i : Nat} (hi : i < t.s.obs.length) : t.a.sz (i : Int) = 1 + (t.s.obs[i].n : Int) := by
  have h := rm_len hP (List.getElem_mem hi)
  unfold RrA.sz obA
  show 1 + (((List.getD (t.s.obs.map Ob.fields) ((i : Int)).toNat []).length : Nat) : Int) = _
  rw [Int.toNat_natCast, List.getD_eq_getElem?_getD, List.getElem?_map, List.getElem?_eq_getElem hi]
  simp [h]

set_option maxRecDepth 100000 in
set_option maxHeartbeats 64000000 in
theorem rrClear_any {F : Nat → Prop} {W0 w : World} {Br Bm : Nat} {c : Int} {t : RrT} {L : List Item} (hS : Sep F W0 w (rrL Br Bm c t ++ L)) (ok : ROk t.s) (hc : c = 1 ∨ c = 2 ∨ c = 3) (hl : t.ws.length ≤ 256) (ht0 : 0 ≤ t.times) (ht1 : t.times ≤ 100000)
    (hrow : ∀ x ∈ (if c = 2 then order t.a.σ.objs t.a.σ.regs else rrow t.a.rc [] t.a.ws), ∃ i : Nat, x = (i : Int) ∧ i < t.s.obs.length) (hsum : ((if c = 2 then order t.a.σ.objs t.a.σ.regs else rrow t.a.rc [] t.a.ws).map t.a.sz).sum ≤ (t.ws.length : Int)) :
    Calls Try.prog 133 #[.pointer (some ⟨Br, 0, none⟩)] w fun e w' => (∃ u, e = .returned u) ∧ Sep F W0 w' (rrL Br Bm c ((t.w_ (t.a.clear c).ws).tm (t.times + 1)) ++ L) := by
  obtain ⟨k0, k1, k2, k3, k4, k5, -, -, -, k9⟩ := rr_cells (pre := []) hS
  have hS1 : Sep F W0 (w.setCell ⟨Br, 3, none⟩ (.int .i64 (t.times + 1))) (rrL Br Bm c (t.tm (t.times + 1)) ++ L) := hS.set_ 0 (g := Br) (t := 162) rfl 3 (.int .i64 (t.times + 1))
  have C1 := hide (rreached_any (hS1.get 2 rfl) ok)
  have HS1 := hide hS1
  have w1' : IntKind.i64.wrap (t.times + 1) = t.times + 1 := wrap64 _ (by omega) (by omega)
  have HOK := hide ok
  have HSZ := hide (fun (X : World) (hP : (rmI Bm t.s).P X) (i : Nat) (hi : i < t.s.obs.length) => rr_szp hP hi)
  have HN4 := hide (fun (X : World) (hP : (rmI Bm t.s).P X) (i : Nat) (hi : i < t.s.obs.length) => (show t.s.obs[i].n ≤ 4 from by
    have h1 := rm_len hP (List.getElem_mem hi)
    have h2 := ok.m.f4 t.s.obs[i].fields (List.mem_map.2 ⟨_, List.getElem_mem hi, rfl⟩)
    omega))
  have HROW := hide hrow
  have HSUM := hide hsum
  obtain ⟨R, hR⟩ : ∃ R, reachR (absR t.s).objs (absR t.s).regs = R := ⟨_, rfl⟩
  rw [show reachR (absR (t.tm (t.times + 1)).s).objs (absR (t.tm (t.times + 1)).s).regs = R from hR] at C1
  have HRC := hide (show t.a.rc = R from hR)
  obtain ⟨O, hO⟩ : ∃ O, order t.a.σ.objs t.a.σ.regs = O := ⟨_, rfl⟩
  have HO := hide hO
  obtain ⟨t1, ht1'⟩ : ∃ q, t.tm (t.times + 1) = q := ⟨_, rfl⟩
  have HT1 := hide ht1'
  rw [ht1'] at HS1
  have HTS := hide (show t1.s = t.s ∧ t1.ws = t.ws ∧ t1.gw = t.gw ∧ t1.cw = t.cw from by rw [← ht1']; exact ⟨rfl, rfl, rfl, rfl⟩)
  have HFI := hide (fun (l : List Int) (h : (t.a.clear c).ws = l) => show (t.w_ (t.a.clear c).ws).tm (t.times + 1) = t1.w_ l from by rw [h, ← ht1']; rfl)
  have HT1W := hide (show t1 = t1.w_ (rdropK R t.ws 0) from by rw [← ht1']; rfl)
  have HRL := hide (show R.length ≤ 1000 from by
    have h1 := (reach_ok' (absR t.s).objs (absR t.s).regs)
    rw [hR] at h1
    have h2 : (absR t.s).objs.length = t.s.obs.length := List.length_map ..
    have := ok.n
    omega)
  have HWN := hide hl
  obtain ⟨N, hN⟩ : ∃ n, t.ws.length = n := ⟨_, rfl⟩
  have HN := hide hN
  rw [hN] at hl
  obtain ⟨tms, htms⟩ : ∃ x, t.times = x := ⟨_, rfl⟩
  rw [htms] at k3 w1' ht0 ht1
  have HTM := hide htms
  rw [htms] at HS1 C1
  clear hS hS1 ok hrow hsum hR hO ht1' hN htms k1 k9
  go_enter Try.func133, Try.ntmps133
  go_wp2_with fail
  refine C1.out.mono ?_
  rintro e w1 ⟨A2, n2, c2, rfl, hP1⟩
  have hn2 : R.length = n2 := by have := (show w1.ownsRow 0 3 1 (.slice A2 n2 c2) n2 (ints R) from hP1.get 0 rfl).1; simpa using this
  have HN2 := hide (show n2 ≤ 1000 by rw [← hn2]; exact HRL.out)
  have hS2 := (HS1.out.consNew hP1.below_ _ (hP1.get 0 rfl) (fun g hg => (hP1.lo 0 rfl g hg).resolve_left (fun h => h))).nilRow0 3 1
  have HS2 := hide (show Sep F W0 w1 ([rowI 3 1 none 0 0 (ints (rrow R [] (t.ws.take 0))), rowI 3 1 A2 n2 c2 (ints R)] ++ (rrL Br Bm c (t1.w_ (rdropK R t.ws 0)) ++ L)) from by rw [← HT1W.out]; exact hS2)
  clear hP1 hS2 C1 HS1 hn2 k0 k2 k3 k4 k5 HT1W
  go_wp2_with fail
  go_loopw [3, 4] (fun a i wr => ∃ (k m : Nat) (A : Option Addr) (ca : Nat), k ≤ N ∧ m ≤ k ∧ i = .int .i64 k ∧ a = .slice A m ca ∧ Hid ((rrow R [] (t.ws.take k)).length = m) ∧ Sep F W0 wr ([rowI 3 1 A m ca (ints (rrow R [] (t.ws.take k))), rowI 3 1 A2 n2 c2 (ints R)] ++ (rrL Br Bm c (t1.w_ (rdropK R t.ws k)) ++ L))) (fun _ i _ => N - (intOf i).toNat)
  case atStart => exact ⟨0, 0, none, 0, by omega, by omega, rfl, rfl, rfl, HS2.out⟩
  case round =>
    clear HS2
    obtain ⟨k, m, A, ca, hk, hmk, rfl, rfl, HM, hS⟩ := hrel
    obtain ⟨k0, k1, k2, -, -, k5, k6, k7, k8, k9⟩ := rr_cells hS
    have hln : (rdropK R t.ws k).length = N := by rw [rdropK_len]; exact HN.out
    have k1' : wr.cell? ⟨Br, 1, none⟩ = some (.slice (some ⟨t1.gw, 0, none⟩) (rdropK R t.ws k).length t1.cw) := k1
    rw [hln] at k1'
    obtain ⟨gw, hgw⟩ : ∃ q, t1.gw = q := ⟨_, rfl⟩
    obtain ⟨cw, hcw⟩ : ∃ q, t1.cw = q := ⟨_, rfl⟩
    rw [hgw, hcw] at k1'
    have k6' : ∀ (k_1 : Nat) (x : Int), (rdropK R t.ws k)[k_1]? = some x → wr.cell? ⟨gw, k_1, none⟩ = some (.int .i64 x) ∧ wr.frozen? ⟨gw, k_1, none⟩ = false := by rw [← hgw]; exact k6
    have k7' : gw < wr.heap.size := by rw [← hgw]; exact k7
    have k8' : gw ≠ Br := by rw [← hgw]; exact k8
    have k8'' : Br ≠ gw := fun e => k8' e.symm
    have HGW := hide hgw
    by_cases hlt : k < N
    · have hkl : k < t.ws.length := by rw [HN.out]; exact hlt
      obtain ⟨x, hx⟩ : ∃ x, t.ws[k]? = some x := ⟨_, List.getElem?_eq_getElem hkl⟩
      obtain ⟨e0, e1⟩ := k6' k x (by rw [rdropK_get, if_neg (by omega)]; exact hx)
      have CR := has_any wr (fun _ => True) A2 n2 c2 R x (by have := HN2.out; omega) (hS.rd_ 1 rfl)
      have CW := has_any wr (fun _ => True) A m ca (rrow R [] (t.ws.take k)) x (by omega) (hS.rd_ 0 rfl)
      have hrt := rrow_take R t.ws hx
      by_cases hx0 : 0 ≤ x
      · have t1' : decide (0 ≤ x) = true := by simp [hx0]
        by_cases hxR : x ∈ R
        · rw [decide_eq_true hxR] at CR
          have hsm := rdropK_same R t.ws hx (show fdrop R x = x from if_neg (fun h => h.2 hxR))
          have HSM := hide hsm
          by_cases hxr : x ∈ rrow R [] (t.ws.take k)
          · rw [decide_eq_true hxr] at CW
            have HRT := hide (show rrow R [] (t.ws.take (k + 1)) = rrow R [] (t.ws.take k) from by rw [hrt]; exact if_neg (fun h => h.2.2 hxr))
            have HCR := hide CR
            have HCW := hide CW
            have HS := hide hS
            clear hrt CR CW hS k1 k6 k6' k7 k8 k9 hx hxR hxr hsm hln hgw hcw hx0
            go_wp2_with fail
            refine HCR.out.mono ?_
            rintro e w2 ⟨rfl, rfl⟩
            clear HCR
            go_wp2_with fail
            refine HCW.out.mono ?_
            rintro e w2 ⟨rfl, rfl⟩
            clear HCW
            go_wp2_with fail
            go_roundw
            case rel => exact ⟨k + 1, m, A, ca, by omega, by omega, by go_num, rfl, by rw [HRT.out]; exact HM, by rw [HRT.out, HSM.out]; exact HS.out⟩
            case measure => simp [intOf]; omega
          · rw [decide_eq_false hxr] at CW
            have HRT := hide (show rrow R [] (t.ws.take (k + 1)) = rrow R [] (t.ws.take k) ++ [x] from by rw [hrt]; exact if_pos ⟨hx0, hxR, hxr⟩)
            have HCR := hide CR
            have HCW := hide CW
            have HS := hide hS
            clear hrt CR CW hS k1 k6 k6' k7 k8 k9 hx hxR hxr hsm hln hgw hcw hx0
            go_wp2_with fail
            refine HCR.out.mono ?_
            rintro e w2 ⟨rfl, rfl⟩
            clear HCR
            go_wp2_with fail
            refine HCW.out.mono ?_
            rintro e w2 ⟨rfl, rfl⟩
            clear HCW
            go_wp2_with (first
              | (at_builtin
                 refine wpList_app1 (cs := #[.int .i64 x]) rfl (.tmp 61) (.tmp 63) 35 rfl (F := F) (W := W0) sInt (items := _ :: _) HS.out 0 (n := m) rfl rfl rfl (by simp) rfl rfl (by omega) ?_
                 intro A6 c6 w6 hS6 hC6
                 clear hC6))
            have HS6 := hide hS6
            clear hS6 HS
            go_roundw
            case rel => exact ⟨k + 1, m + 1, A6, c6, by omega, by omega, by go_num, rfl, by rw [HRT.out, List.length_append, HM.out]; exact hide rfl, by
              rw [HRT.out, HSM.out, show ints (rrow R [] (t.ws.take k) ++ [x]) = ints (rrow R [] (t.ws.take k)) ++ [.int .i64 x] from by simp [ints]]
              exact HS6.out⟩
            case measure => simp [intOf]; omega
        · rw [decide_eq_false hxR] at CR
          have HRT := hide (show rrow R [] (t.ws.take (k + 1)) = rrow R [] (t.ws.take k) from by rw [hrt]; exact if_neg (fun h => hxR h.2.1))
          have HSM := hide (show rdropK R t.ws (k + 1) = (rdropK R t.ws k).set k (-1) from by rw [rdropK_succ R t.ws hx, show fdrop R x = -1 from if_pos ⟨hx0, hxR⟩])
          have HST := hide (rr_store hS k (-1))
          rw [HGW.out] at HST
          have HCR := hide CR
          clear hrt CR CW hS k1 k6 k6' k7 k8 k9 hx hxR hln hgw hcw hx0
          go_wp2_with fail
          refine HCR.out.mono ?_
          rintro e w2 ⟨rfl, rfl⟩
          clear HCR
          go_wp2_with fail
          go_roundw
          case rel => exact ⟨k + 1, m, A, ca, by omega, by omega, by go_num, rfl, by rw [HRT.out]; exact HM, by rw [HRT.out, HSM.out]; exact HST.out⟩
          case measure => simp [intOf]; omega
      · have t1' : decide (0 ≤ x) = false := by simp only [hx0, decide_false]
        have HRT := hide (show rrow R [] (t.ws.take (k + 1)) = rrow R [] (t.ws.take k) from by rw [hrt]; exact if_neg (fun h => hx0 h.1))
        have HSM := hide (rdropK_same R t.ws hx (show fdrop R x = x from if_neg (fun h => hx0 h.1)))
        have HS := hide hS
        clear hrt CR CW hS k1 k6 k6' k7 k8 k9 hx hln hgw hcw hx0
        go_wp2_with fail
        go_roundw
        case rel => exact ⟨k + 1, m, A, ca, by omega, by omega, by go_num, rfl, by rw [HRT.out]; exact HM, by rw [HRT.out, HSM.out]; exact HS.out⟩
        case measure => simp [intOf]; omega
    · obtain rfl : k = N := by omega
      have hall : t.ws.take k = t.ws := List.take_of_length_le (by rw [HN.out]; exact Nat.le_refl _)
      have hdr : rdropK R t.ws k = rdrop R t.ws := rdropK_all R t.ws (by rw [HN.out]; exact Nat.le_refl _)
      rw [hall, hdr] at hS
      have HM2 := hide (show (rrow R [] t.ws).length = m from by rw [← hall]; exact HM.out)
      rcases hc with rfl | rfl | rfl
      · have HS := hide hS
        have HFN := hide (HFI.out (rdrop R t.ws) (by unfold RrA.clear; rw [if_pos rfl, HRC.out]; rfl))
        clear k1 k6 k6' k7 k8 k9 hln hgw hcw hS hall hdr HM
        go_wp2_with fail
        refine bodyPost_ret (results_none rfl _ _ _) rfl ?_
        exact ⟨⟨_, rfl⟩, by rw [HFN.out]; exact HS.out.sub (.cons _ (.cons _ (List.Sublist.refl _)))⟩
      · have hrw := HROW.out
        have hsm := HSUM.out
        rw [if_pos rfl, HO.out] at hrw hsm
        have HROW2 := hide hrw
        have HSUM2 := hide hsm
        have HFN := hide (HFI.out (rstands t.a.sz O 0 (List.replicate k (-1))) (by unfold RrA.clear; rw [if_neg (by decide), if_pos rfl, HO.out, show t.a.ws.length = k from HN.out]))
        have hS3 := hS.sub (l := rrL Br Bm 2 (t1.w_ (rdrop R t.ws)) ++ L) (.cons _ (.cons _ (List.Sublist.refl _)))
        have k9' : (rmI Bm t.s).P wr := by rw [← HTS.out.1]; exact k9
        obtain ⟨hOR, hRR⟩ := rm_obsRd k9'
        have hbd : Below wr.heap.size wr wr.drew := (Below.refl _ wr).drew
        have hG := graphRd_of (cO := t.s.co) (hOR.below hbd) (cR := t.s.cR) (hRR.below hbd)
        have hf4 := HOK.out.m.f4
        have hn := HOK.out.n
        have h8 : t.s.regs.length = 8 := HOK.out.m.r8
        have CO := order_any wr.drew _ (t.s.obs.map Ob.fields) t.s.regs hG (by rw [List.length_map]; omega) (by omega) (fun fs hfs => by have := hf4 fs hfs; omega) HOK.out.m.vr HOK.out.m.vo
        rw [show order (t.s.obs.map Ob.fields) t.s.regs = O from HO.out] at CO
        have HCO := hide CO
        obtain ⟨m0, m1, _, m3, _⟩ := rm_mem k9'
        have HS3 := hide hS3
        have HLN := hide (show (rdrop R t.ws).length = k from by rw [← hdr]; exact hln)
        have HOL := hide (show O.length ≤ 1000 from by
          have h1 := (order_ok HOK.out.m.vo HOK.out.m.vr).len
          have h2 : (absR t.s).objs.length = t.s.obs.length := List.length_map ..
          rw [show order (absR t.s).objs (absR t.s).regs = O from HO.out] at h1
          omega)
        clear k1 k6 k6' k7 k8 k9 k9' hln hgw hcw hS hall hdr HM HM2 hrw hsm hOR hRR hG hf4 hn h8 CO hS3 hbd HROW HSUM HFI
        go_wp2_with fail
        go_cut [3] from 75 to 91 (fun s3 wx => ∃ (A : Option Addr) (n3 c3 : Nat), s3 = .slice A n3 c3 ∧ Sep F W0 wx ([rowI 3 1 A n3 c3 (ints O)] ++ (rrL Br Bm 2 (t1.w_ (rdrop R t.ws)) ++ L)))
        case first =>
          go_region_held3 (fun w' => w'.cell? ⟨Br, 0, none⟩ = some (.pointer (some ⟨Bm, 0, none⟩)) ∧ w'.cell? ⟨Bm, 0, none⟩ = some (.slice (some ⟨t.s.gr, 0, none⟩) t.s.regs.length t.s.cR) ∧ w'.cell? ⟨Bm, 1, none⟩ = some (.slice t.s.Ao t.s.obs.length t.s.co)) (first | go_keep | (simp only [World.cell?_drew]; assumption) | assumption)
            ((go_at_call 175; (with_reducible refine HCO.out.mono ?_); rintro e w2 ⟨A3, n3, c3, rfl, hP3⟩; have hb2 := hP3.below_; have q0 := (World.cell?_of_block (a := ⟨Bm, 0, none⟩) (hb2.block Bm m3)).trans m0; have q1 := (World.cell?_of_block (a := ⟨Bm, 1, none⟩) (hb2.block Bm m3)).trans m1; have q2 := (World.cell?_of_block (a := ⟨Br, 0, none⟩) (hb2.block Br k5)).trans k0; have HP3 := hide (HS3.out.drew.consNew hb2 _ (hP3.get 0 rfl) (fun g hg => (hP3.lo 0 rfl g hg).resolve_left (fun h => h))); clear hP3 hb2))
          all_goals
            go_wp2_with fail
            go_meet
            case rel => exact ⟨A3, n3, c3, rfl, HP3.out⟩
        case rest =>
          obtain ⟨A3, n3, c3, rfl, hS4⟩ := hcut
          have hn3 : O.length = n3 := by have := (show wc.ownsRow 0 3 1 (.slice A3 n3 c3) n3 (ints O) from hS4.get 0 rfl).1; simpa using this
          have HN3 := hide hn3
          have hn39 : n3 ≤ 1000 := by rw [← hn3]; exact HOL.out
          have HS4 := hide hS4
          clear hS4 HCO HS3 m0 m1 m3 k0 k1' k2 k5 k7' k8' k8'' hn3 HGW
          go_wp2_with fail
          go_loopw [6] (fun i wr => ∃ (j : Nat), j ≤ k ∧ i = .int .i64 j ∧ Sep F W0 wr ([rowI 3 1 A3 n3 c3 (ints O)] ++ (rrL Br Bm 2 (t1.w_ (negK (rdrop R t.ws) j)) ++ L))) (fun i _ => k - (intOf i).toNat)
          case atStart => exact ⟨0, by omega, rfl, HS4.out⟩
          case round =>
            clear HS4
            obtain ⟨j, hj, rfl, hS⟩ := hrel
            obtain ⟨b0, b1, -, -, -, b5, b6, b7, b8, b9⟩ := rr_cells hS
            have hlj : (negK (rdrop R t.ws) j).length = k := by rw [negK_len _ (by rw [HLN.out]; exact hj)]; exact HLN.out
            have b1' : wr.cell? ⟨Br, 1, none⟩ = some (.slice (some ⟨t1.gw, 0, none⟩) (negK (rdrop R t.ws) j).length t1.cw) := b1
            rw [hlj] at b1'
            obtain ⟨gw, hgw⟩ : ∃ q, t1.gw = q := ⟨_, rfl⟩
            obtain ⟨cw, hcw⟩ : ∃ q, t1.cw = q := ⟨_, rfl⟩
            rw [hgw, hcw] at b1'
            have b7' : gw < wr.heap.size := by rw [← hgw]; exact b7
            by_cases hlt : j < k
            · have hjl : j < (negK (rdrop R t.ws) j).length := by rw [hlj]; exact hlt
              obtain ⟨f0, f1⟩ := b6 j _ (List.getElem?_eq_getElem hjl)
              obtain ⟨y, hy⟩ : ∃ y, (negK (rdrop R t.ws) j)[j] = y := ⟨_, rfl⟩
              rw [hy] at f0
              have f0' : wr.cell? ⟨gw, j, none⟩ = some (.int .i64 y) := by rw [← hgw]; exact f0
              have f1' : wr.frozen? ⟨gw, j, none⟩ = false := by rw [← hgw]; exact f1
              have HST := hide (rr_store hS j (-1))
              rw [hgw] at HST
              have HNE := hide (negK_succ (rdrop R t.ws) (k := j) (by rw [HLN.out]; exact hlt))
              clear hS b1 b6 b7 b8 b9 f0 f1 hy hjl hlj hgw hcw
              go_wp2_with fail
              go_roundw
              case rel => exact ⟨j + 1, by omega, by go_num, by rw [HNE.out]; exact HST.out⟩
              case measure => simp [intOf]; omega
            · obtain rfl : j = k := by omega
              have hne : negK (rdrop R t.ws) j = List.replicate j (-1) := by have h := negK_all (rdrop R t.ws); rw [HLN.out] at h; exact h
              rw [hne] at hS
              have HS5 := hide hS
              clear hS b1 b6 b7 b8 b9 hlj hgw hcw hne
              go_wp2_with fail
              go_loopw [7, 108] (fun a i wr => ∃ (q p : Nat) (ws : List Int), q ≤ n3 ∧ i = .int .i64 q ∧ a = .int .i64 p ∧ Hid (ws.length = j ∧ rstands t.a.sz (O.drop q) p ws = rstands t.a.sz O 0 (List.replicate j (-1)) ∧ (p : Int) + ((O.drop q).map t.a.sz).sum ≤ j) ∧ Sep F W0 wr ([rowI 3 1 A3 n3 c3 (ints O)] ++ (rrL Br Bm 2 (t1.w_ ws) ++ L))) (fun _ i _ => n3 - (intOf i).toNat)
              case atStart => exact ⟨0, 0, List.replicate j (-1), by omega, rfl, rfl, ⟨List.length_replicate, rfl, by have h := HSUM2.out; rw [HN.out] at h; rw [List.drop_zero]; omega⟩, HS5.out⟩
              case round =>
                clear HS5
                obtain ⟨q, p, ws, hq, rfl, rfl, HG, hS⟩ := hrel
                by_cases hlt2 : q < n3
                · have hql : q < O.length := by rw [HN3.out]; exact hlt2
                  obtain ⟨ad, hA, _, had, hcc⟩ := (hS.rd_ 0 rfl).at_ hlt2
                  have e0 := hcc (.int .i64 O[q]) (by simp [ints, List.getElem?_eq_getElem hql])
                  obtain ⟨g1, g2, g3⟩ := HG.out
                  rw [List.drop_eq_getElem_cons hql] at g2 g3
                  obtain ⟨z, hz, hzl⟩ := HROW2.out _ (List.getElem_mem hql)
                  obtain ⟨x, hx⟩ : ∃ x, O[q] = x := ⟨_, rfl⟩
                  rw [hx] at e0 g2 g3 hz
                  subst hz
                  obtain ⟨-, -, -, -, -, -, -, -, -, b9⟩ := rr_cells hS
                  rw [show (t1.w_ ws).s = t.s from HTS.out.1] at b9
                  have hsz := HSZ.out wr b9 z hzl
                  have h4 := HN4.out wr b9 z hzl
                  rw [rstands_cons] at g2
                  simp only [List.map_cons, List.sum_cons] at g3
                  rw [hsz] at g2 g3
                  have hpos : 0 ≤ ((O.drop (q + 1)).map t.a.sz).sum := by
                    have key : ∀ l : List Int, 0 ≤ (l.map t.a.sz).sum := fun l => by
                      induction l with
                      | nil => exact Int.le_refl _
                      | cons y l ih => have : 0 < t.a.sz y := by unfold RrA.sz; omega
                                       simp only [List.map_cons, List.sum_cons]; omega
                    exact key _
                  have hzl1 : z < (t1.w_ ws).s.obs.length := by rw [show (t1.w_ ws).s = t.s from HTS.out.1]; exact hzl
                  obtain ⟨mn, hmn⟩ : ∃ v, (t.s.obs[z]).n = v := ⟨_, rfl⟩
                  have hmn1 : ((t1.w_ ws).s.obs[z]).n = mn := by rw [← hmn]; congr 2; exact congrArg RMem.obs HTS.out.1
                  rw [hmn] at hsz h4 g2 g3
                  have CS := rrStand_any hS (by show ws.length ≤ 256; rw [g1]; omega) z p hzl1 (by have := HOK.out.n; have h5 : (t1.w_ ws).s.obs.length = t.s.obs.length := congrArg (fun s => s.obs.length) HTS.out.1; omega) (by rw [hmn1]; exact h4) (by rw [hmn1]; show p + 1 + mn ≤ ws.length; omega)
                  rw [hmn1] at CS
                  have HCS := hide CS
                  have HG2 := hide (show (rstand ws (z : Int) p (1 + mn)).length = j ∧ rstands t.a.sz (O.drop (q + 1)) (p + 1 + mn) (rstand ws (z : Int) p (1 + mn)) = rstands t.a.sz O 0 (List.replicate j (-1)) ∧ ((p + 1 + mn : Nat) : Int) + ((O.drop (q + 1)).map t.a.sz).sum ≤ j from by
                    refine ⟨by rw [rstand_len]; exact g1, ?_, by omega⟩
                    rw [show (1 + (mn : Int)).toNat = 1 + mn from by omega, show p + (1 + mn) = p + 1 + mn from by omega] at g2
                    exact g2)
                  have HPB := hide (show p + 1 + mn ≤ 256 from by omega)
                  subst hA
                  clear hS hcc g1 g2 g3 hx hsz b9 hpos hzl1 hmn hmn1 CS HG hzl
                  go_wp2_with fail
                  refine HCS.out.mono ?_
                  rintro e w5 ⟨rfl, hS5⟩
                  have HS5 := hide hS5
                  clear hS5 HCS
                  go_wp2_with fail
                  go_roundw
                  case rel => exact ⟨q + 1, p + 1 + mn, rstand ws (z : Int) p (1 + mn), by omega, by go_num, by first | rfl | (simp; done) | go_num, HG2.out, HS5.out⟩
                  case measure => simp [intOf]; omega
                · obtain rfl : q = n3 := by omega
                  obtain ⟨g1, g2, g3⟩ := HG.out
                  rw [List.drop_of_length_le (by rw [HN3.out]; exact Nat.le_refl _)] at g2
                  have g4 : ws = rstands t.a.sz O 0 (List.replicate j (-1)) := g2
                  subst g4
                  have HS6 := hide hS
                  clear hS g1 g2 g3 HG
                  go_wp2_with fail
                  go_end0
                  exact ⟨⟨_, rfl⟩, by rw [HFN.out]; exact HS6.out.sub (.cons _ (List.Sublist.refl _))⟩
      · have hrw := HROW.out
        have hsm := HSUM.out
        rw [if_neg (by decide), HRC.out] at hrw hsm
        obtain ⟨O2, hO2⟩ : ∃ q, rrow R [] t.ws = q := ⟨_, rfl⟩
        rw [show rrow R [] t.a.ws = O2 from hO2] at hrw hsm
        have HROW2 := hide hrw
        have HSUM2 := hide hsm
        have HFN := hide (HFI.out (rstands t.a.sz O2 0 (List.replicate k (-1))) (by unfold RrA.clear; rw [if_neg (by decide), if_neg (by decide), HRC.out, show rrow R [] t.a.ws = O2 from hO2, show t.a.ws.length = k from HN.out]))
        rw [hO2] at hS HM2
        have hS4 : Sep F W0 wr ([rowI 3 1 A m ca (ints O2)] ++ (rrL Br Bm 3 (t1.w_ (rdrop R t.ws)) ++ L)) := hS.sub (.cons_cons _ (.cons _ (List.Sublist.refl _)))
        have HN3 := hide (show O2.length = m from HM2.out)
        have hn39 : m ≤ 1000 := by omega
        have HLN := hide (show (rdrop R t.ws).length = k from by rw [← hdr]; exact hln)
        have HS4 := hide hS4
        clear k1 k6 k6' k7 k8 k9 hln hgw hcw hS hall hdr HM HM2 hrw hsm hS4 HROW HSUM HFI hO2 k7' k8' k8'' HGW
        go_wp2_with fail
        go_loopw [6] (fun i wr => ∃ (j : Nat), j ≤ k ∧ i = .int .i64 j ∧ Sep F W0 wr ([rowI 3 1 A m ca (ints O2)] ++ (rrL Br Bm 3 (t1.w_ (negK (rdrop R t.ws) j)) ++ L))) (fun i _ => k - (intOf i).toNat)
        case atStart => exact ⟨0, by omega, rfl, HS4.out⟩
        case round =>
          clear HS4
          obtain ⟨j, hj, rfl, hS⟩ := hrel
          obtain ⟨b0, b1, -, -, -, b5, b6, b7, b8, b9⟩ := rr_cells hS
          have hlj : (negK (rdrop R t.ws) j).length = k := by rw [negK_len _ (by rw [HLN.out]; exact hj)]; exact HLN.out
          have b1' : wr.cell? ⟨Br, 1, none⟩ = some (.slice (some ⟨t1.gw, 0, none⟩) (negK (rdrop R t.ws) j).length t1.cw) := b1
          rw [hlj] at b1'
          obtain ⟨gw, hgw⟩ : ∃ q, t1.gw = q := ⟨_, rfl⟩
          obtain ⟨cw, hcw⟩ : ∃ q, t1.cw = q := ⟨_, rfl⟩
          rw [hgw, hcw] at b1'
          have b7' : gw < wr.heap.size := by rw [← hgw]; exact b7
          by_cases hlt : j < k
          · have hjl : j < (negK (rdrop R t.ws) j).length := by rw [hlj]; exact hlt
            obtain ⟨f0, f1⟩ := b6 j _ (List.getElem?_eq_getElem hjl)
            obtain ⟨y, hy⟩ : ∃ y, (negK (rdrop R t.ws) j)[j] = y := ⟨_, rfl⟩
            rw [hy] at f0
            have f0' : wr.cell? ⟨gw, j, none⟩ = some (.int .i64 y) := by rw [← hgw]; exact f0
            have f1' : wr.frozen? ⟨gw, j, none⟩ = false := by rw [← hgw]; exact f1
            have HST := hide (rr_store hS j (-1))
            rw [hgw] at HST
            have HNE := hide (negK_succ (rdrop R t.ws) (k := j) (by rw [HLN.out]; exact hlt))
            clear hS b1 b6 b7 b8 b9 f0 f1 hy hjl hlj hgw hcw
            go_wp2_with fail
            go_roundw
            case rel => exact ⟨j + 1, by omega, by go_num, by rw [HNE.out]; exact HST.out⟩
            case measure => simp [intOf]; omega
          · obtain rfl : j = k := by omega
            have hne : negK (rdrop R t.ws) j = List.replicate j (-1) := by have h := negK_all (rdrop R t.ws); rw [HLN.out] at h; exact h
            rw [hne] at hS
            have HS5 := hide hS
            clear hS b1 b6 b7 b8 b9 hlj hgw hcw hne
            go_wp2_with fail
            go_loopw [7, 108] (fun a i wr => ∃ (q p : Nat) (ws : List Int), q ≤ m ∧ i = .int .i64 q ∧ a = .int .i64 p ∧ Hid (ws.length = j ∧ rstands t.a.sz (O2.drop q) p ws = rstands t.a.sz O2 0 (List.replicate j (-1)) ∧ (p : Int) + ((O2.drop q).map t.a.sz).sum ≤ j) ∧ Sep F W0 wr ([rowI 3 1 A m ca (ints O2)] ++ (rrL Br Bm 3 (t1.w_ ws) ++ L))) (fun _ i _ => m - (intOf i).toNat)
            case atStart => exact ⟨0, 0, List.replicate j (-1), by omega, rfl, rfl, ⟨List.length_replicate, rfl, by have h := HSUM2.out; rw [HN.out] at h; rw [List.drop_zero]; omega⟩, HS5.out⟩
            case round =>
              clear HS5
              obtain ⟨q, p, ws, hq, rfl, rfl, HG, hS⟩ := hrel
              by_cases hlt2 : q < m
              · have hql : q < O2.length := by rw [HN3.out]; exact hlt2
                obtain ⟨ad, hA, _, had, hcc⟩ := (hS.rd_ 0 rfl).at_ hlt2
                have e0 := hcc (.int .i64 O2[q]) (by simp [ints, List.getElem?_eq_getElem hql])
                obtain ⟨g1, g2, g3⟩ := HG.out
                rw [List.drop_eq_getElem_cons hql] at g2 g3
                obtain ⟨z, hz, hzl⟩ := HROW2.out _ (List.getElem_mem hql)
                obtain ⟨x, hx⟩ : ∃ x, O2[q] = x := ⟨_, rfl⟩
                rw [hx] at e0 g2 g3 hz
                subst hz
                obtain ⟨-, -, -, -, -, -, -, -, -, b9⟩ := rr_cells hS
                rw [show (t1.w_ ws).s = t.s from HTS.out.1] at b9
                have hsz := HSZ.out wr b9 z hzl
                have h4 := HN4.out wr b9 z hzl
                rw [rstands_cons] at g2
                simp only [List.map_cons, List.sum_cons] at g3
                rw [hsz] at g2 g3
                have hpos : 0 ≤ ((O2.drop (q + 1)).map t.a.sz).sum := by
                  have key : ∀ l : List Int, 0 ≤ (l.map t.a.sz).sum := fun l => by
                    induction l with
                    | nil => exact Int.le_refl _
                    | cons y l ih => have : 0 < t.a.sz y := by unfold RrA.sz; omega
                                     simp only [List.map_cons, List.sum_cons]; omega
                  exact key _
                have hzl1 : z < (t1.w_ ws).s.obs.length := by rw [show (t1.w_ ws).s = t.s from HTS.out.1]; exact hzl
                obtain ⟨mn, hmn⟩ : ∃ v, (t.s.obs[z]).n = v := ⟨_, rfl⟩
                have hmn1 : ((t1.w_ ws).s.obs[z]).n = mn := by rw [← hmn]; congr 2; exact congrArg RMem.obs HTS.out.1
                rw [hmn] at hsz h4 g2 g3
                have CS := rrStand_any hS (by show ws.length ≤ 256; rw [g1]; omega) z p hzl1 (by have := HOK.out.n; have h5 : (t1.w_ ws).s.obs.length = t.s.obs.length := congrArg (fun s => s.obs.length) HTS.out.1; omega) (by rw [hmn1]; exact h4) (by rw [hmn1]; show p + 1 + mn ≤ ws.length; omega)
                rw [hmn1] at CS
                have HCS := hide CS
                have HG2 := hide (show (rstand ws (z : Int) p (1 + mn)).length = j ∧ rstands t.a.sz (O2.drop (q + 1)) (p + 1 + mn) (rstand ws (z : Int) p (1 + mn)) = rstands t.a.sz O2 0 (List.replicate j (-1)) ∧ ((p + 1 + mn : Nat) : Int) + ((O2.drop (q + 1)).map t.a.sz).sum ≤ j from by
                  refine ⟨by rw [rstand_len]; exact g1, ?_, by omega⟩
                  rw [show (1 + (mn : Int)).toNat = 1 + mn from by omega, show p + (1 + mn) = p + 1 + mn from by omega] at g2
                  exact g2)
                have HPB := hide (show p + 1 + mn ≤ 256 from by omega)
                subst hA
                clear hS hcc g1 g2 g3 hx hsz b9 hpos hzl1 hmn hmn1 CS HG hzl
                go_wp2_with fail
                refine HCS.out.mono ?_
                rintro e w5 ⟨rfl, hS5⟩
                have HS5 := hide hS5
                clear hS5 HCS
                go_wp2_with fail
                go_roundw
                case rel => exact ⟨q + 1, p + 1 + mn, rstand ws (z : Int) p (1 + mn), by omega, by go_num, by first | rfl | (simp; done) | go_num, HG2.out, HS5.out⟩
                case measure => simp [intOf]; omega
              · obtain rfl : q = m := by omega
                obtain ⟨g1, g2, g3⟩ := HG.out
                rw [List.drop_of_length_le (by rw [HN3.out]; exact Nat.le_refl _)] at g2
                have g4 : ws = rstands t.a.sz O2 0 (List.replicate j (-1)) := g2
                subst g4
                have HS6 := hide hS
                clear hS g1 g2 g3 HG
                go_wp2_with fail
                go_end0
                exact ⟨⟨_, rfl⟩, by rw [HFN.out]; exact HS6.out.sub (.cons _ (List.Sublist.refl _))⟩
end Go.Proofs.Ytjphckfbbiehdaa

namespace Go.Proofs.Ytjphckfbbiehdaa
open Go.RowKit

def rI (Br Bm : Nat) (c : Int) (t : RrT) : Item := allI (rrL Br Bm c t)
theorem rI_flat {Br Bm : Nat} {c : Int} {t : RrT} {w : World} (hP : (rI Br Bm c t).P w) : Sep (rI Br Bm c t).fp w w (rrL Br Bm c t ++ []) := (Sep.start hP).flat
theorem rI_fold {Br Bm : Nat} {c : Int} {t : RrT} {F : Nat → Prop} {W0 w : World} (h : Sep F W0 w (rrL Br Bm c t ++ [])) : Sep F W0 w [rI Br Bm c t] := Sep.fold (l := rrL Br Bm c t) h
theorem RrSim.rrow_eq {W : Nat} {a : RnA} {r : RrA} (h : RrSim W a r) : rrow r.rc [] r.ws = a.drop.row := by
  rw [h.lad, rrow_lad (fun x _ => a.sz_pos x) (fun x hx => RnA.there_pos (a.row_perm.mem_iff.1 hx)) (a.row_perm.nodup_iff.2 (thereL_nodup _)) (fun x _ hx => by cases hx), List.nil_append]
  refine h.ok.drop.row_uniq ?_ (a.row_sorted.filter _)
  refine (List.perm_ext_iff_of_nodup ((a.row_perm.nodup_iff.2 (thereL_nodup _)).filter _) (thereL_nodup _)).2 fun x => ?_
  rw [List.mem_filter, a.row_perm.mem_iff, h.ok.drop_there, decide_eq_true_eq, h.rc]
  exact ⟨fun h1 => h1.2, fun h1 => ⟨h.ok.lives_there x h1, h1⟩⟩
theorem rr_row {W : Nat} {a : RnA} {r : RrA} (h : RrSim W a r) (c : Int) : (∀ x ∈ (if c = 2 then order r.σ.objs r.σ.regs else rrow r.rc [] r.ws), ∃ i : Nat, x = (i : Int) ∧ i < r.σ.objs.length) ∧ ((if c = 2 then order r.σ.objs r.σ.regs else rrow r.rc [] r.ws).map r.sz).sum ≤ (W : Int) := by
  obtain ⟨l, hl, hp⟩ : ∃ l, (if c = 2 then order r.σ.objs r.σ.regs else rrow r.rc [] r.ws) = l ∧ l.Perm (thereL a.drop.objs) := by
    by_cases h2 : c = 2
    · exact ⟨a.lives, by rw [if_pos h2]; exact h.lives, h.ok.drop_perm.symm⟩
    · exact ⟨a.drop.row, by rw [if_neg h2]; exact h.rrow_eq, a.drop.row_perm⟩
  rw [hl]
  have hth : ∀ x ∈ l, x ∈ thereL a.objs := fun x hx => h.ok.lives_there x ((h.ok.drop_there x).1 (hp.mem_iff.1 hx))
  refine ⟨fun x hx => ?_, ?_⟩
  · obtain ⟨i, fs, rfl, hf⟩ := RnA.there.1 (hth x hx)
    exact ⟨i, rfl, by rw [← h.sim.n]; exact RnA.fld_lt hf⟩
  · rw [List.map_congr_left (g := a.drop.sz) (fun x hx => by rw [h.sz (hth x hx), h.ok.drop_sz ((h.ok.drop_there x).1 (hp.mem_iff.1 hx))]), sum_perm _ hp]
    exact h.ok.drop.sum
theorem rr_clear_a (t : RrT) (c : Int) : ((t.w_ (t.a.clear c).ws).tm (t.times + 1)).a = t.a.clear c := by
  unfold RrA.clear
  by_cases h : c = 1
  · rw [if_pos h]; rfl
  · rw [if_neg h]; rfl
theorem rrClearI {Br Bm : Nat} {c : Int} {t : RrT} {w : World} {F : Nat → Prop} {W0 : World} {L : List Item} (hS : Sep F W0 w (rI Br Bm c t :: L)) (ok : ROk t.s) (hc : c = 1 ∨ c = 2 ∨ c = 3) {W : Nat} {a : RnA} (h : RrSim W a t.a) (hW : W ≤ 256) (ht0 : 0 ≤ t.times) (ht1 : t.times ≤ 100000) :
    Calls Try.prog 133 #[.pointer (some ⟨Br, 0, none⟩)] w fun e w' => (∃ u, e = .returned u) ∧ Sep F W0 w' (rI Br Bm c ((t.w_ (t.a.clear c).ws).tm (t.times + 1)) :: L) := by
  have hl : t.ws.length = W := h.wok.len
  have hob : t.a.σ.objs.length = t.s.obs.length := List.length_map ..
  obtain ⟨r1, r2⟩ := rr_row h c
  refine (rrClear_any (rI_flat (hS.get 0 rfl)) ok hc (by omega) ht0 ht1 (fun x hx => by obtain ⟨i, e, hi⟩ := r1 x hx; exact ⟨i, e, by omega⟩) (by rw [hl]; exact r2)).mono ?_
  rintro e w' ⟨he, hS2⟩
  exact ⟨he, hS.call 0 rfl (rI_fold hS2)⟩
theorem rrDoI {Br Bm : Nat} {c : Int} {t : RrT} {w : World} {F : Nat → Prop} {W0 : World} {L : List Item} (hS : Sep F W0 w (rI Br Bm c t :: L)) (ok : ROk t.s) (d : DoV) (hw : rWrong d (absR t.s) = 0) :
    Calls Try.prog 81 #[.pointer (some ⟨Bm, 0, none⟩), .agg d.cells] w fun e w' => ∃ s' : RMem, e = .returned (stepK d (absR t.s)).1.val ∧ absR s' = (stepK d (absR t.s)).2 ∧ s'.gone.length = s'.obs.length ∧ Sep F W0 w' (rI Br Bm c { t with s := s' } :: L) := by
  have hf := rI_flat (hS.get 0 rfl)
  refine (rdo_any (hf.get 2 rfl) ok d hw).mono ?_
  rintro e w' ⟨s', he, ha, hP, hg, _⟩
  exact ⟨s', he, ha, hg, hS.call 0 rfl (rI_fold (hf.call 2 rfl hP))⟩
theorem rrStandI {Br Bm : Nat} {c : Int} {t : RrT} {w : World} {F : Nat → Prop} {W0 : World} {L : List Item} (hS : Sep F W0 w (rI Br Bm c t :: L)) (hl : t.ws.length ≤ 256) (i p m : Nat) (hi : i < t.s.obs.length) (hn9 : t.s.obs.length ≤ 600) (hm : t.s.obs[i].n = m) (h4 : m ≤ 4) (hp : p + 1 + m ≤ t.ws.length) :
    Calls Try.prog 135 #[.pointer (some ⟨Br, 0, none⟩), .int .i64 i, .int .i64 p] w fun e w' => (∃ u, e = .returned u) ∧ Sep F W0 w' (rI Br Bm c (t.w_ (rstand t.ws i p (1 + m))) :: L) := by
  subst hm
  refine (rrStand_any (pre := []) (rI_flat (hS.get 0 rfl)) hl i p hi hn9 h4 hp).mono ?_
  rintro e w' ⟨he, hS2⟩
  exact ⟨⟨_, he⟩, hS.call 0 rfl (rI_fold hS2)⟩
def RStepOk (Br Bm : Nat) (c : Int) (t : RrT) (w : World) (d : DoV) : Prop :=
  Calls Try.prog 69 #[.pointer (some ⟨Br, 0, none⟩), .agg d.cells] w fun e w' => e = .returned (rrStep c d t.a).1.val ∧ ∃ t' : RrT, t'.a = (rrStep c d t.a).2 ∧ t'.s.gone.length = t'.s.obs.length ∧ Sep (rI Br Bm c t).fp w w' [rI Br Bm c t']
theorem rI_cells {F : Nat → Prop} {W0 w : World} {Br Bm : Nat} {c : Int} {t : RrT} {k : Nat} {items : List Item} (hS : Sep F W0 w items) (hk : items[k]? = some (rI Br Bm c t)) : w.cell? ⟨Br, 0, none⟩ = some (.pointer (some ⟨Bm, 0, none⟩)) ∧ w.cell? ⟨Bm, 1, none⟩ = some (.slice t.s.Ao t.s.obs.length t.s.co) ∧ Br < w.heap.size ∧ Bm < w.heap.size := by
  obtain ⟨k0, -, -, -, -, k5, -, -, -, k9⟩ := rr_cells (pre := []) (rI_flat (hS.get k hk))
  obtain ⟨_, m1, _, m3, _⟩ := rm_mem k9
  exact ⟨k0, m1, k5, m3⟩

set_option maxRecDepth 100000 in
set_option maxHeartbeats 16000000 in
theorem rrStep_work {Br Bm : Nat} {c : Int} {t : RrT} {w : World} (hP : (rI Br Bm c t).P w) (ok : ROk t.s) (hc : c = 1 ∨ c = 2 ∨ c = 3) {W : Nat} {a : RnA} (h : RrSim W a t.a) (hW : W ≤ 256) (ht0 : 0 ≤ t.times) (ht1 : t.times ≤ 100000) (d : DoV) (hd : d.k = 8) : RStepOk Br Bm c t w d := by
  unfold RStepOk
  have hst : rrStep c d t.a = (⟨0, false, 0⟩, t.a.clear c) := by unfold rrStep; rw [if_pos hd]
  rw [hst]
  obtain ⟨gd, hgd⟩ : ∃ g, w.heap.size = g := ⟨_, rfl⟩
  have hS0 := ((Sep.start hP).blkAt 39 d.cells hgd).blkAt 41 #[.int .i64 0, .bool false, .int .i64 0] (g := gd + 1) (by simp [hgd])
  have C := rrClearI hS0 ok hc h hW ht0 ht1
  obtain ⟨x1, x2, x3, -⟩ := hS0.rules 1 (g := gd) (t := 39) rfl
  obtain ⟨dk, dto, dfr, dat, dn⟩ := d
  dsimp only at hd
  subst hd
  unfold DoV.cells at x1 x2 x3 C ⊢
  dsimp only at x1 x2 x3 C ⊢
  have x5 := (x1 0).trans (show _ = some (.int .i64 8) from rfl)
  have HA := hide (rr_clear_a t c)
  have HGN := hide (show t.s.gone.length = t.s.obs.length from ok.k)
  have HC := hide C
  unfold OutV.val
  dsimp only
  clear hP hS0 ok h C x1 hst hc
  go_enter Try.func69, Try.ntmps69
  go_wp2_with fail
  refine HC.out.mono ?_
  rintro e w2 ⟨⟨u, rfl⟩, hS2⟩
  obtain ⟨y1, y2, y3, -⟩ := hS2.rules 2 (g := gd + 1) (t := 41) rfl
  have HS2 := hide hS2
  clear hS2 HC x2 x3 x5
  go_wp2_with fail
  have hF := ((HS2.out.set_ 2 (g := gd + 1) (t := 41) rfl 0 (.int .i64 0)).set_ 2 (g := gd + 1) (t := 41) rfl 1 (.bool false)).set_ 2 (g := gd + 1) (t := 41) rfl 2 (.int .i64 0)
  obtain ⟨z1, -, -, -⟩ := hF.rules 2 (g := gd + 1) (t := 41) rfl
  refine bodyPost_ret (v := .agg #[.int .i64 0, .bool false, .int .i64 0]) (by simp [results, Try.results69, go_sem, z1]) rfl ⟨rfl, _, HA.out, HGN.out, hF.sub (List.sublist_append_left [_] [_, _])⟩

set_option maxRecDepth 100000 in
set_option maxHeartbeats 16000000 in
theorem rrStep_bad {Br Bm : Nat} {c : Int} {t : RrT} {w : World} (hP : (rI Br Bm c t).P w) (ok : ROk t.s) (d : DoV) (hd : d.k ≠ 8) (hw : rWrong d (absR t.s) ≠ 0) : RStepOk Br Bm c t w d := by
  unfold RStepOk
  have hst : rrStep c d t.a = (⟨rWrong d (absR t.s), false, 0⟩, t.a) := by
    have hs := stepM_rw d t.a.σ
    rw [if_pos (show rWrong d t.a.σ ≠ 0 from hw)] at hs
    unfold rrStep
    rw [if_neg hd]
    by_cases hm : wrongM d ≠ 0
    · rw [if_pos hm]
      have : rWrong d (absR t.s) = wrongM d := by unfold rWrong; rw [if_pos hm]
      rw [this]
    · rw [if_neg hm]
      have hk1 : d.k ≠ 1 := fun e => by
        unfold rWrong at hw
        rw [if_neg hm, if_neg (by omega), if_neg (by omega)] at hw
        exact hw rfl
      rw [if_neg hk1, hs]
      rfl
  rw [hst]
  obtain ⟨x, hx⟩ : ∃ x, rWrong d (absR t.s) = x := ⟨_, rfl⟩
  obtain ⟨gd, hgd⟩ : ∃ g, w.heap.size = g := ⟨_, rfl⟩
  have hS0 := ((Sep.start hP).blkAt 39 d.cells hgd).blkAt 41 #[.int .i64 0, .bool false, .int .i64 0] (g := gd + 1) (by simp [hgd])
  have CW := rwrong_any ((rI_flat (hS0.drew.get 0 rfl)).get 2 rfl) ok d
  rw [hx] at hw CW ⊢
  obtain ⟨k0, -, k5, -⟩ := rI_cells hS0 (k := 0) rfl
  obtain ⟨x1, x2, x3, -⟩ := hS0.rules 1 (g := gd) (t := 39) rfl
  obtain ⟨dk, dto, dfr, dat, dn⟩ := d
  dsimp only at hd
  unfold DoV.cells at x1 x2 x3 CW hS0 k0 k5 ⊢
  dsimp only at x1 x2 x3 CW hS0 k0 k5 ⊢
  have f0 := (x1 0).trans (show _ = some (.int .i64 dk) from rfl)
  have f1 := (x1 1).trans (show _ = some (.int .i64 dto) from rfl)
  have f2 := (x1 2).trans (show _ = some (.int .i64 dfr) from rfl)
  have f3 := (x1 3).trans (show _ = some (.int .i64 dat) from rfl)
  have f4 := (x1 4).trans (show _ = some (.int .i64 dn) from rfl)
  have y8 : (dk == 8) = false := by simp [hd]
  have yx : (x != 0) = true := by rw [bne_iff_ne]; exact hw
  have HGN := hide (show t.s.gone.length = t.s.obs.length from ok.k)
  have HCW := hide CW
  have HS0 := hide hS0
  unfold OutV.val
  dsimp only
  clear hP hS0 ok CW x1 hst hd hw hx
  go_enter Try.func69, Try.ntmps69
  go_wp2_with fail
  go_region_held3 (fun w' => w'.cell? ⟨Br, 0, none⟩ = some (.pointer (some ⟨Bm, 0, none⟩)) ∧ w'.cell? ⟨gd, 0, none⟩ = some (.int .i64 dk) ∧ w'.cell? ⟨gd, 1, none⟩ = some (.int .i64 dto) ∧ w'.cell? ⟨gd, 2, none⟩ = some (.int .i64 dfr) ∧ w'.cell? ⟨gd, 3, none⟩ = some (.int .i64 dat) ∧ w'.cell? ⟨gd, 4, none⟩ = some (.int .i64 dn)) (first | go_keep | (simp only [World.cell?_drew]; assumption) | assumption)
    ((go_at_call 78; (with_reducible refine HCW.out.mono ?_); rintro e w2 ⟨rfl, hb2⟩; have hS2 := HS0.out.drew.below hb2; obtain ⟨q0, -, q5, -⟩ := rI_cells hS2 (k := 0) rfl; obtain ⟨z1, z2, z3, -⟩ := hS2.rules 1 (g := gd) (t := 39) rfl; have z5 := (z1 0).trans (show _ = some (.int .i64 dk) from rfl); have z6 := (z1 1).trans (show _ = some (.int .i64 dto) from rfl); have z7 := (z1 2).trans (show _ = some (.int .i64 dfr) from rfl); have z8 := (z1 3).trans (show _ = some (.int .i64 dat) from rfl); have z9 := (z1 4).trans (show _ = some (.int .i64 dn) from rfl); obtain ⟨y1, y2, y3, -⟩ := hS2.rules 2 (g := gd + 1) (t := 41) rfl; have HS2 := hide hS2; clear hS2 hb2 z1))
  all_goals
    go_wp2_with fail
    have hF := ((HS2.out.set_ 2 (g := gd + 1) (t := 41) rfl 0 (.int .i64 x)).set_ 2 (g := gd + 1) (t := 41) rfl 1 (.bool false)).set_ 2 (g := gd + 1) (t := 41) rfl 2 (.int .i64 0)
    obtain ⟨z1, -, -, -⟩ := hF.rules 2 (g := gd + 1) (t := 41) rfl
    refine bodyPost_ret (v := .agg #[.int .i64 x, .bool false, .int .i64 0]) (by simp [results, Try.results69, go_sem, z1]) rfl ⟨rfl, t, rfl, HGN.out, hF.sub (List.sublist_append_left [_] [_, _])⟩
end Go.Proofs.Ytjphckfbbiehdaa
