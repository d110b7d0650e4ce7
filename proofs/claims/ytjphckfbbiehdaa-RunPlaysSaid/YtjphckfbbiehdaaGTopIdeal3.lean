/- A memory with so many words: where there is room; objects stand one behind the other. A memory with so many words: what can be come to. slices.Contains of numbers. -/
import Derived.Test.YtjphckfbbiehdaaGTopIdeal2
import Derived.Test.YtjphckfbbiehdaaGTopIdeal1
import Derived.Test.YtjphckfbbiehdaaGIdealPlays16
import Derived.Test.YtjphckfbbiehdaaGIdealPlays1
set_option linter.unusedSimpArgs false
set_option linter.unusedVariables false
namespace Go.Proofs.Ytjphckfbbiehdaa
open Go.RowKit Go.Maps

theorem rn_sz {W : Int} {t : RnT} (ok : RnOk W t.a) {x : Int} (hx : x ∈ thereL t.oj.abs) : ∃ (i : Nat) (p : Po), x = (i : Int) ∧ t.oj.ps[i]? = some (some p) ∧ t.a.sz x = 1 + (p.o.fields.length : Int) ∧ p.o.fields.length ≤ 4 ∧ i < t.oj.ps.length := by
  obtain ⟨i, p, rfl, h1, h2⟩ := rn_there hx
  refine ⟨i, p, rfl, h1, h2, ?_, (List.getElem?_eq_some_iff.1 h1).1⟩
  refine ok.f4 i p.o.fields ?_
  rw [RnA.fld_iff]
  show t.oj.abs[i]? = _
  unfold Oj.abs
  rw [List.getElem?_map, h1]
  rfl
theorem wrap64 (x : Int) (h0 : -1000000 ≤ x) (h1 : x ≤ 1000000) : IntKind.i64.wrap x = x := by
  simp [IntKind.wrap, IntKind.bits, IntKind.signed]; omega
theorem rn_look {F : Nat → Prop} {W0 w : World} {Be Bm : Nat} {c W : Int} {t : RnT} {pre : List Item} (hS : Sep F W0 w (pre ++ rnK Be Bm c W t)) {i : Nat} (hi : (i : Int) ∈ thereL t.oj.abs) (hn : i ≤ 1000) (k : Nat) :
    (Instr.lookup 99 (.map (some t.b)) (.int .i64 (i : Int)) false).run Try.prog (w.drewN k) = .ok (.int .i64 (t.a.at_ (i : Int))) (w.drewN k) :=
  at_look1 (rn_at (hS.drewN k)) (i : Int) (wfI_of (by omega) (by omega)) hi

set_option maxRecDepth 100000 in
set_option maxHeartbeats 16000000 in
theorem room_any {F : Nat → Prop} {W0 w : World} {Be Bm : Nat} {c W : Int} {t : RnT} (hK : Sep F W0 w (rnK Be Bm c W t)) (ok : RnOk W t.a) (hW : W ≤ 256) (hn : t.oj.ps.length ≤ 900) (N : Int) (h1 : 1 ≤ N) (h5 : N ≤ 5) :
    Calls Try.prog 267 #[.pointer (some ⟨Be, 0, none⟩), .int .i64 N] w fun e w' => e = .returned (.int .i64 (t.a.room c W N)) ∧ Below w.heap.size w w' := by
  have CR := hide (row_any hK ok hn)
  have HK := hide (fun (X : World) (hb : Below w.heap.size w X) => hK.below hb)
  have hO := ok
  have hw0 := ok.w0
  have HAP := hide (fun (x : Int) (hx : x ∈ thereL t.oj.abs) => (⟨ok.ap.lo x hx, ok.ap.hi x hx⟩ : 0 ≤ t.a.at_ x ∧ t.a.at_ x + t.a.sz x ≤ W))
  have HSZ := hide (fun (x : Int) (hx : x ∈ thereL t.oj.abs) => rn_sz ok hx)
  obtain ⟨res, hres⟩ : ∃ r, t.a.room c W N = r := ⟨_, rfl⟩
  rw [hres]
  unfold RnA.room at hres
  have HMEM := hide (fun x (hx : x ∈ t.a.row) => show x ∈ thereL t.oj.abs from t.a.row_perm.mem_iff.1 hx)
  have hm9 : t.a.row.length ≤ 1000 := by
    rw [t.a.row_perm.length_eq]
    have h1 := thereK_len t.a.objs t.a.objs.length
    have h2 : t.a.objs.length = t.oj.ps.length := List.length_map ..
    have h3 : (thereL t.a.objs).length = (thereK t.a.objs t.a.objs.length).length := rfl
    omega
  obtain ⟨R, hR⟩ : ∃ l, t.a.row = l := ⟨_, rfl⟩
  rw [hR] at hres CR HMEM hm9
  have HRES := hide hres
  have HN9 := hide hn
  obtain ⟨m, hm⟩ : ∃ n, R.length = n := ⟨_, rfl⟩
  rw [hm] at CR hm9
  have HM := hide hm
  clear hK ok hO hR hres hn hm
  go_enter Try.func267, Try.ntmps267
  go_wp2_with fail
  refine CR.out.mono ?_
  rintro e w1 ⟨A, c1, rfl, hP⟩
  have HP := hide hP
  clear hP CR
  go_wp2_with fail
  go_loopw [5, 11] (fun nx i wr => ∃ (k : Nat) (b : Int), k ≤ m ∧ i = .int .i64 k ∧ nx = .int .i64 b ∧ 0 ≤ b ∧ b ≤ 256 ∧ Hid (roomG (decide (c = 1)) W N t.a.at_ t.a.sz (R.drop k) b = res) ∧ Sep No w wr [rowI 3 1 A m c1 (ints R)]) (fun _ i _ => m - (intOf i).toNat)
  case atStart => exact ⟨0, 0, by omega, rfl, rfl, by omega, by omega, HRES.out, HP.out⟩
  case round =>
    clear HP
    obtain ⟨k, b, hk, rfl, rfl, hb0, hb1, HG, hS⟩ := hrel
    have hS1 := HK.out wr hS.below_
    by_cases hlt : k < m
    · have hkl : k < R.length := by rw [HM.out]; exact hlt
      obtain ⟨ad, hA, _, had, hc⟩ := (hS.rd_ 0 rfl).at_ hlt
      have e0 := hc (.int .i64 R[k]) (by simp [ints, List.getElem?_eq_getElem hkl])
      have hmem := HMEM.out _ (List.getElem_mem hkl)
      have hg := HG.out
      rw [List.drop_eq_getElem_cons hkl] at hg
      obtain ⟨x, hx⟩ : ∃ x, R[k] = x := ⟨_, rfl⟩
      rw [hx] at e0 hmem hg
      obtain ⟨z, p, rfl, hp, hsz, hp4, hzl⟩ := HSZ.out x hmem
      have hz9 : z ≤ 1000 := by have := HN9.out; omega
      obtain ⟨a0, a1⟩ := HAP.out _ hmem
      have hlk := fun k => rn_look (pre := []) hS1 hmem hz9 k
      obtain ⟨k1, _, k3, k4, _, _, _, k8⟩ := rn_cells (pre := []) hS1
      have CS := fun j => rsize_any (pre := [_, _, _]) (hS1.drewN j) (by have := HN9.out; omega) hp hp4 (Be := Be) (show (wr.drewN j).cell? _ = _ from k1)
      rw [← hsz] at CS
      unfold roomG at hg
      obtain ⟨ax, hax⟩ : ∃ q, t.a.at_ (z : Int) = q := ⟨_, rfl⟩
      obtain ⟨sx, hsx⟩ : ∃ q, t.a.sz (z : Int) = q := ⟨_, rfl⟩
      rw [hax] at a0 a1 hg hlk
      rw [hsx] at a1 hg
      simp only [hsx] at CS
      have hs1 : 1 ≤ sx ∧ sx ≤ 5 := by rw [← hsx, hsz]; omega
      obtain ⟨df, hdf⟩ : ∃ q, ax - b = q := ⟨_, rfl⟩
      have w1' : IntKind.i64.wrap (ax - b) = df := by rw [wrap64 _ (by omega) (by omega)]; exact hdf
      obtain ⟨nb, hnb⟩ : ∃ q, ax + sx = q := ⟨_, rfl⟩
      have w2' : IntKind.i64.wrap (ax + sx) = nb := by rw [wrap64 _ (by omega) (by omega)]; exact hnb
      have hnb0 : 0 ≤ nb := by omega
      have hnb1 : nb ≤ 256 := by omega
      rw [hdf, hnb] at hg
      have hlk0 : (Instr.lookup 99 (.map (some t.b)) (.int .i64 (z : Int)) false).run Try.prog wr = .ok (.int .i64 ax) wr := hlk 0
      have HQ := hide (fun j => Calls.quiet_of_same (v := .int .i64 sx) (CS j))
      have HS := hide hS
      have HGG := hide hg
      subst hA
      obtain ⟨mb, hmb⟩ : ∃ q, t.b = q := ⟨_, rfl⟩
      rw [hmb] at k3 hlk hlk0
      clear hc hmem hg hx hp hsz hp4 a0 a1 hax hsx hs1 hdf hnb k1 CS hS hS1 HG hb0 hb1 hmb
      by_cases hc1 : c = 1
      · subst hc1
        by_cases hle : N ≤ df
        · have t1 : decide (N ≤ df) = true := by simp [hle]
          have hb : b = res := by have h := HGG.out; rw [if_pos ⟨rfl, hle⟩] at h; exact h
          subst hb
          have HB := hide HS.out.below_
          clear hle HGG HS HQ hlk
          go_wp2_with fail
          go_ret
          exact ⟨rfl, HB.out⟩
        · have t1 : decide (N ≤ df) = false := by simp only [hle, decide_false]
          have HG2 := hide (show roomG (decide ((1 : Int) = 1)) W N t.a.at_ t.a.sz (R.drop (k + 1)) nb = res from by have h := HGG.out; rw [if_neg (fun hh => hle hh.2)] at h; exact h)
          clear hle HGG
          go_wp2_with fail
          go_quiet ((with_reducible exact HQ.out _))
          go_wp2_with fail
          go_roundw
          case rel => exact ⟨k + 1, nb, by omega, by go_num, rfl, hnb0, hnb1, HG2.out, HS.out.drewN _⟩
          case measure => simp [intOf]; omega
      · have t1 : (c == 1) = false := by simp [hc1]
        have HG2 := hide (show roomG (decide (c = 1)) W N t.a.at_ t.a.sz (R.drop (k + 1)) nb = res from by have h := HGG.out; rw [if_neg (fun hh => hc1 (by simpa using hh.1))] at h; exact h)
        clear HGG hlk0
        go_wp2_with fail
        go_quiet ((with_reducible exact HQ.out _))
        go_wp2_with fail
        go_roundw
        case rel => exact ⟨k + 1, nb, by omega, by go_num, rfl, hnb0, hnb1, HG2.out, HS.out.drewN _⟩
        case measure => simp [intOf]; omega
    · obtain rfl : k = m := by omega
      have hg := HG.out
      rw [List.drop_of_length_le (by rw [HM.out]; exact Nat.le_refl _)] at hg
      unfold roomG at hg
      obtain ⟨_, _, _, _, k5, _, _, k8⟩ := rn_cells (pre := []) hS1
      obtain ⟨df, hdf⟩ : ∃ q, W - b = q := ⟨_, rfl⟩
      have w1' : IntKind.i64.wrap (W - b) = df := by rw [wrap64 _ (by omega) (by omega)]; exact hdf
      rw [hdf] at hg
      have HB := hide hS.below_
      clear hS hS1 hdf HG
      by_cases hle : N ≤ df
      · have t1 : decide (N ≤ df) = true := by simp [hle]
        rw [if_pos hle] at hg
        subst hg
        clear hle
        go_wp2_with fail
        go_ret
        exact ⟨rfl, HB.out⟩
      · have t1 : decide (N ≤ df) = false := by simp only [hle, decide_false]
        rw [if_neg hle] at hg
        subst hg
        clear hle
        go_wp2_with fail
        go_ret
        exact ⟨rfl, HB.out⟩

/-- The places of objects turn. -/
def RnT.ats_ (t : RnT) (l : List Int) : RnT := { t with ats := l }
set_option maxRecDepth 100000 in
set_option maxHeartbeats 16000000 in
theorem rdown_any {F : Nat → Prop} {W0 w : World} {Be Bm : Nat} {c W : Int} {t : RnT} {A : Option Addr} {m c1 : Nat} {R : List Int} (hS0 : Sep F W0 w (rowI 3 1 A m c1 (ints R) :: rnK Be Bm c W t)) (ok : RnOk W t.a) (hn : t.oj.ps.length ≤ 900) (hR : ∀ x ∈ R, x ∈ thereL t.oj.abs) (hsum : (R.map t.a.sz).sum ≤ 256) :
    Calls Try.prog 105 #[.pointer (some ⟨Be, 0, none⟩), .slice A m c1] w fun e w' => (∃ u, e = .returned u) ∧ Sep F W0 w' (rnK Be Bm c W (t.ats_ (downG t.a.sz R 0 t.ats))) := by
  have HSZ := hide (fun (x : Int) (hx : x ∈ thereL t.oj.abs) => rn_sz ok hx)
  have HR := hide hR
  have HCL := hide (show t.ats.length = t.oj.ps.length from by have h := ok.cl; have h2 : t.a.objs.length = t.oj.ps.length := List.length_map ..; exact h.trans h2)
  have HM := hide (show R.length = m by have := (show w.ownsRow 0 3 1 (.slice A m c1) m (ints R) from hS0.get 0 rfl).1; simpa using this)
  obtain ⟨fin, hfin⟩ : ∃ l, downG t.a.sz R 0 t.ats = l := ⟨_, rfl⟩
  rw [hfin]
  have HFIN := hide hfin
  have HSUM := hide hsum
  have HSP := hide (fun x => t.a.sz_pos x)
  have HN9 := hide hn
  have hm9 : m ≤ 9223372036854775807 := by
    have h := (show w.ownsRow 0 3 1 (.slice A m c1) m (ints R) from hS0.get 0 rfl).2
    rcases h with ⟨hv, _⟩ | ⟨_, _, _, hv, _, _, h1, h2, _⟩
    · injection hv with _ h3 _; omega
    · injection hv with _ h3 h4; unfold maxLen at h2; omega
  have HS0 := hide hS0
  clear hS0 ok hn hR hsum hfin
  go_enter Try.func105, Try.ntmps105
  go_wp2_with fail
  go_loopw [4, 9] (fun nx i wr => ∃ (k : Nat) (b : Int) (ats : List Int), k ≤ m ∧ i = .int .i64 k ∧ nx = .int .i64 b ∧ 0 ≤ b ∧ Hid (b + ((R.drop k).map t.a.sz).sum ≤ 256) ∧ Hid (ats.length = t.oj.ps.length ∧ downG t.a.sz (R.drop k) b ats = fin) ∧ Sep F W0 wr (rowI 3 1 A m c1 (ints R) :: rnK Be Bm c W (t.ats_ ats))) (fun _ i _ => m - (intOf i).toNat)
  case atStart => exact ⟨0, 0, t.ats, by omega, rfl, rfl, by omega, by unfold Hid; rw [List.drop_zero]; have := HSUM.out; omega, ⟨HCL.out, HFIN.out⟩, HS0.out⟩
  case round =>
    clear HS0
    obtain ⟨k, b, ats, hk, rfl, rfl, hb0, HB, HG, hS⟩ := hrel
    by_cases hlt : k < m
    · have hkl : k < R.length := by rw [HM.out]; exact hlt
      obtain ⟨ad, hA, _, had, hc⟩ := (hS.rd_ 0 rfl).at_ hlt
      have e0 := hc (.int .i64 R[k]) (by simp [ints, List.getElem?_eq_getElem hkl])
      have hmem := HR.out _ (List.getElem_mem hkl)
      obtain ⟨hal, hg⟩ := HG.out
      have hb := HB.out
      rw [List.drop_eq_getElem_cons hkl] at hg hb
      obtain ⟨x, hx⟩ : ∃ x, R[k] = x := ⟨_, rfl⟩
      rw [hx] at e0 hmem hg hb
      obtain ⟨z, p, rfl, hp, hsz, hp4, hzl⟩ := HSZ.out x hmem
      have hz9 : z ≤ 1000 := by have := HN9.out; omega
      unfold downG at hg
      rw [Int.toNat_natCast] at hg
      simp only [List.map_cons, List.sum_cons] at hb
      have hrest : 0 ≤ ((R.drop (k + 1)).map t.a.sz).sum := by
        have key : ∀ l : List Int, 0 ≤ (l.map t.a.sz).sum := fun l => by
          induction l with
          | nil => exact Int.le_refl _
          | cons y l ih => have := HSP.out y; simp only [List.map_cons, List.sum_cons]; omega
        exact key _
      obtain ⟨k1, _, k3, _, _, _, _, k8⟩ := rn_cells (pre := [_]) hS
      obtain ⟨sx, hsx⟩ : ∃ q, t.a.sz (z : Int) = q := ⟨_, rfl⟩
      rw [hsx] at hg hb hsz
      have hs1 : 1 ≤ sx ∧ sx ≤ 5 := by omega
      obtain ⟨nb, hnb⟩ : ∃ q, b + sx = q := ⟨_, rfl⟩
      have w2' : IntKind.i64.wrap (b + sx) = nb := by rw [wrap64 _ (by omega) (by omega)]; exact hnb
      have hnb0 : 0 ≤ nb := by omega
      rw [hnb] at hg
      have HB2 := hide (show nb + ((R.drop (k + 1)).map t.a.sz).sum ≤ 256 from by omega)
      have hlo : ∀ y ∈ thereL t.oj.abs, (y = (z : Int) ∧ (t.ats_ (ats.set z b)).a.at_ y = b) ∨ (y ≠ (z : Int) ∧ y ∈ thereL t.oj.abs ∧ (t.ats_ (ats.set z b)).a.at_ y = (t.ats_ ats).a.at_ y) := fun y hy => by
        obtain ⟨j, q, rfl, _, _⟩ := rn_there hy
        show (_ ∧ (ats.set z b).getD _ 0 = _) ∨ (_ ∧ _ ∧ (ats.set z b).getD _ 0 = ats.getD _ 0)
        rw [Int.toNat_natCast, List.getD_eq_getElem?_getD, List.getElem?_set]
        by_cases e : z = j
        · subst e
          exact .inl ⟨rfl, by rw [if_pos rfl, if_pos (by omega)]; rfl⟩
        · exact .inr ⟨by omega, hy, by rw [if_neg e, ← List.getD_eq_getElem?_getD]⟩
      have HLO := hide hlo
      have HAL := hide (show (ats.set z b).length = t.oj.ps.length by rw [List.length_set]; exact hal)
      have HGG := hide hg
      have HMEM := hide hmem
      have HWZ := hide (wfI_of (x := (z : Int)) (by omega) (by omega))
      have HWB := hide (wfI_of (x := b) hb0 (by omega))
      have HNL := hide (show t.oj.ps.length + 1 < maxLen by have := HN9.out; unfold maxLen; omega)
      have HS := hide hS
      have CS := hide (fun (X : World) (hX : Sep F W0 X (rowI 3 1 A m c1 (ints R) :: rnK Be Bm c W (t.ats_ (ats.set z b)))) => (show Calls Try.prog 158 #[.pointer (some ⟨Be, 0, none⟩), .int .i64 z] X fun e w' => e = .returned (.int .i64 sx) ∧ w' = X from by
        have h := rsize_any (pre := [_, _, _, _]) hX (by have := HN9.out; show t.oj.ps.length ≤ 1000; omega) hp hp4 (Be := Be) (rn_cells (pre := [_]) hX).1
        rw [← hsz] at h
        exact h))
      have hmb : (t.ats_ ats).b = t.b := rfl
      rw [hmb] at k3
      obtain ⟨mb, hmb2⟩ : ∃ q, t.b = q := ⟨_, rfl⟩
      rw [hmb2] at k3
      have HMB := hide hmb2
      subst hA
      clear hc hmem hg hb hx hp hsz hp4 hsx hs1 hnb k1 hS HG HB hb0 hlo hal hrest hmb hmb2 hzl hz9
      go_wp2_with (first
        | (at_mapUpdate
           refine wpList_atPut rfl _ _ _ rfl (F := F) (W := W0) (items := _ :: _ :: _ :: _ :: _) HS.out 3 (b := mb) (by rw [← HMB.out]; rfl) HNL.out (z : Int) b rfl rfl rfl HWZ.out HWB.out t.oj.ps.length (thereL t.oj.abs) (t.ats_ (ats.set z b)).a.at_ (.inl ⟨HMEM.out, Nat.le_refl _⟩) HLO.out ?_
           intro w7 hS7))
      have hS8 : Sep F W0 w7 (rowI 3 1 (some ad) m c1 (ints R) :: rnK Be Bm c W (t.ats_ (ats.set z b))) := by
        rw [← HMB.out] at hS7
        exact hS7
      have CS8 := hide (CS.out w7 hS8)
      have HS8 := hide hS8
      clear hS7 hS8 CS HS HLO
      go_wp2_with fail
      refine CS8.out.mono ?_
      rintro e w8 ⟨rfl, rfl⟩
      clear CS8
      go_wp2_with fail
      go_roundw
      case rel => exact ⟨k + 1, nb, ats.set z b, by omega, by go_num, rfl, hnb0, HB2.out, ⟨HAL.out, HGG.out⟩, HS8.out⟩
      case measure => simp [intOf]; omega
    · obtain rfl : k = m := by omega
      have hg := HG.out.2
      rw [List.drop_of_length_le (by rw [HM.out]; exact Nat.le_refl _)] at hg
      have hg2 : ats = fin := hg
      subst hg2
      have HS := hide hS
      clear hS hg HG HB
      go_wp2_with fail
      go_end0
      exact ⟨⟨_, rfl⟩, HS.out.sub (.cons _ (List.Sublist.refl _))⟩
end Go.Proofs.Ytjphckfbbiehdaa

namespace Go.Proofs.Ytjphckfbbiehdaa
open Go.RowKit

def Oj.ptrs (s : Oj) : List (Option Nat × Ob) := s.ps.map fun o => (o.map Po.B, (o.map Po.o).getD ⟨none, 0, 0, []⟩)
theorem oj_ptrs {s : Oj} {F : Nat → Prop} {W w : World} {pre : List Item} (h : Sep F W w (pre ++ ojL s)) : PtrsRd w s.As s.ps.length s.ptrs := by
  refine ⟨?_, ?_, ?_⟩
  · have hrow : (rowI 170 1 s.As s.ps.length s.c (s.ps.map ptrV)).P w := h.all _ (by unfold ojL; simp)
    have e : s.ptrs.map (fun p => Value.pointer (p.1.map fun B => ⟨B, 0, none⟩)) = s.ps.map ptrV := by
      unfold Oj.ptrs
      rw [List.map_map]
      refine List.map_congr_left fun o _ => ?_
      cases o <;> rfl
    rw [e]
    exact Rd.of_own (D := fun _ => True) (show w.ownsRow 0 170 1 (.slice s.As s.ps.length s.c) s.ps.length _ from hrow) (fun _ _ => trivial)
  · intro q hq B hB
    obtain ⟨o, ho, rfl⟩ := List.mem_map.1 hq
    cases o with
    | none => cases hB
    | some p =>
      injection hB with hB
      subst hB
      obtain ⟨i, hi⟩ := List.mem_iff_getElem?.1 ho
      have h1 := h.all (poI p) (List.mem_append_right _ (mem_opI hi))
      have hb : Blk w p.B 119 #[.slice p.o.A p.o.n p.o.c] := h1.1 (blkI p.B 119 #[.slice p.o.A p.o.n p.o.c]) (by simp)
      have hr : (obI p.o).P w := h1.1 (obI p.o) (by simp)
      exact ⟨hb.lt, (hb.cell 0).trans rfl, Rd.of_own (D := fun _ => True) (show w.ownsRow 0 107 2 (.slice p.o.A p.o.n p.o.c) p.o.n _ from hr) (fun _ _ => trivial)⟩
  · intro q hq h
    obtain ⟨o, _, rfl⟩ := List.mem_map.1 hq
    cases o with
    | none => rfl
    | some p => cases h
theorem ptrs_gs (t : RnT) : t.oj.ptrs.map (fun p => p.2.fields) = t.a.gs := by
  unfold Oj.ptrs RnA.gs
  show _ = t.oj.abs.map _
  unfold Oj.abs
  rw [List.map_map, List.map_map]
  refine List.map_congr_left fun o _ => ?_
  cases o <;> rfl
theorem ptrs_n4 {t : RnT} {F : Nat → Prop} {W0 w : World} {W : Int} {pre : List Item} (h : Sep F W0 w (pre ++ ojL t.oj)) (ok : RnOk W t.a) : ∀ p ∈ t.oj.ptrs, p.2.n ≤ 4 := by
  intro q hq
  obtain ⟨o, ho, rfl⟩ := List.mem_map.1 hq
  cases o with
  | none => exact Nat.zero_le _
  | some p =>
    obtain ⟨i, hi⟩ := List.mem_iff_getElem?.1 ho
    have h1 := oj_len h hi
    have h2 : p.o.fields.length ≤ 4 := by
      refine ok.f4 i p.o.fields ?_
      rw [RnA.fld_iff]
      show t.oj.abs[i]? = _
      unfold Oj.abs
      rw [List.getElem?_map, hi]
      rfl
    show p.o.n ≤ 4
    omega
theorem rn_regs {F : Nat → Prop} {W0 w : World} {Be Bm : Nat} {t : RnT} {k : Nat} {items : List Item} (hS : Sep F W0 w items) (hk : items[k]? = some (rnM Be Bm t)) (h8 : t.regs.length = 8) : Rd w (fun _ => True) 2 (some ⟨Bm, 0, none⟩) 8 (vals t.regs) := by
  refine ⟨by rw [vals_length, h8], fun _ => ⟨_, rfl, trivial, hS.hi k hk Bm rfl, fun j u hu => ?_⟩⟩
  obtain ⟨c1, _, _, _⟩ := hS.rules k (g := Bm) (t := 113) (cs := mcCells t.regs (.iface 98 (.pointer (some ⟨Be, 0, none⟩)))) hk
  rw [hraddr0, c1]
  unfold mcCells
  rw [List.getElem?_toArray, List.getElem?_append_left (List.getElem?_eq_some_iff.1 hu).1]
  exact hu

set_option maxRecDepth 100000 in
set_option maxHeartbeats 16000000 in
theorem rfound_any {F : Nat → Prop} {W0 w : World} {Be Bm : Nat} {c W : Int} {t : RnT} (hK : Sep F W0 w (rnK Be Bm c W t)) (ok : RnOk W t.a) (hn : t.oj.ps.length ≤ 600) :
    Calls Try.prog 103 #[.pointer (some ⟨Be, 0, none⟩)] w fun e w' => ∃ A n c', e = .returned (.slice A n c') ∧ Sep No w w' [rowI 3 1 A n c' (ints t.a.lives)] := by
  obtain ⟨g, hg⟩ : ∃ g, w.heap.size = g := ⟨_, rfl⟩
  have hS0 := ((Sep.nil No w).blkAt 27 #[.slice none 0 0, .slice (some ⟨Bm, 0, none⟩) 8 8] hg).nilRow 119 1
  obtain ⟨k1, k2, _, _, _, _, _, k8⟩ := rn_cells (pre := []) hK
  have hK1 := hK.below hS0.below_
  obtain ⟨k1', k2', _, _, _, _, _, k8'⟩ := rn_cells (pre := []) hK1
  have HLL := hide (oj_ptrs (pre := [_, _, _]) hK).len
  have HPT := hide (fun (X : World) (hb : Below w.heap.size w X) => oj_ptrs (pre := [_, _, _]) (hK.below hb))
  have HRG := hide (fun (X : World) (hb : Below w.heap.size w X) => rn_regs (hK.below hb) (k := 0) rfl ok.r8)
  have HBE := hide (fun (X : World) (hb : Below w.heap.size w X) => (⟨(rn_cells (pre := []) (hK.below hb)).1, (rn_cells (pre := []) (hK.below hb)).2.2.2.2.2.2.2⟩ : X.cell? ⟨Be, 0, none⟩ = some t.oj.v ∧ Be < X.heap.size))
  have hgsl : t.a.gs.length = t.oj.ps.length := by rw [t.a.gs_len]; exact List.length_map ..
  have HGL := hide hgsl
  have HOB := hide (show (t.oj.ptrs.map (·.2)).map Ob.fields = t.a.gs by rw [List.map_map]; exact ptrs_gs t)
  have H4 := hide (ptrs_n4 (pre := [_, _, _]) hK ok)
  obtain ⟨gv, rv⟩ := ok.gv
  have HVG := hide gv
  have HVR := hide (show ValsOk t.a.gs.length t.regs from rv)
  have HLV := hide (show order t.a.gs t.regs = t.a.lives from rfl)
  have hBm : Bm < w.heap.size := hK.hi 0 rfl Bm rfl
  have hBmg : Bm ≠ g := by omega
  have hBeg : Be ≠ g := by omega
  unfold Oj.v at k1 k1' HBE
  obtain ⟨N, hN⟩ : ∃ n, t.oj.ps.length = n := ⟨_, rfl⟩
  obtain ⟨cp, hcp⟩ : ∃ n, t.oj.c = n := ⟨_, rfl⟩
  obtain ⟨As, hAs⟩ : ∃ n, t.oj.As = n := ⟨_, rfl⟩
  rw [hN] at k1 k1' hn HLL HGL HBE
  rw [hcp] at k1 k1' HBE
  rw [hAs] at k1 k1' HBE
  simp only [hN, hAs] at HPT
  obtain ⟨l, hl⟩ : ∃ l, t.oj.ptrs = l := ⟨_, rfl⟩
  rw [hl] at HLL H4 HOB
  simp only [hl] at HPT
  obtain ⟨regs, hregs⟩ : ∃ l, t.regs = l := ⟨_, rfl⟩
  rw [hregs] at HVR HLV
  simp only [hregs] at HRG
  obtain ⟨gs, hgs⟩ : ∃ l, t.a.gs = l := ⟨_, rfl⟩
  rw [hgs] at HVR HVG HLV HGL HOB
  obtain ⟨L, hL⟩ : ∃ L, t.a.lives = L := ⟨_, rfl⟩
  rw [hL] at HLV ⊢
  have HS0 := hide hS0
  obtain ⟨a1, a2, a3, a4⟩ := hS0.rules 0 (g := g) (t := 27) rfl
  clear hS0 a1 hK hK1 ok gv rv hgsl hN hcp hAs hl hregs hgs hL k2'
  go_enter Try.func103, Try.ntmps103
  go_wp2_with fail
  go_loopw [20] (fun i wr => ∃ (k : Nat) (A' : Option Addr) (c' : Nat), k ≤ N ∧ i = .int .i64 k ∧
    Sep No w wr [blkI g 27 #[.slice A' k c', .slice (some ⟨Bm, 0, none⟩) 8 8], rowI 119 1 A' k c' ((l.take k).map fun p => p.2.val)]) (fun i _ => N - (intOf i).toNat)
  case atStart => exact ⟨0, none, 0, by omega, rfl, HS0.out⟩
  case round =>
    clear HS0 a2 a3
    obtain ⟨k, A', c', hk, rfl, hS⟩ := hrel
    obtain ⟨x1, x2, x3, _⟩ := hS.rules 0 (g := g) (t := 27) rfl
    have x5 := (x1 0).trans (show _ = some (.slice A' k c') from rfl)
    have x6 := (x1 1).trans (show _ = some (.slice (some ⟨Bm, 0, none⟩) 8 8) from rfl)
    by_cases hlt : k < N
    · have hP := HPT.out wr hS.below_
      obtain ⟨ad, hA, _, had, hc⟩ := hP.row.at_ hlt
      have hkl : k < l.length := by rw [HLL.out]; exact hlt
      have e1 := hc (.pointer (l[k].1.map fun B => ⟨B, 0, none⟩)) (by simp [List.getElem?_eq_getElem hkl])
      have hE := hP.each _ (List.getElem_mem hkl)
      have hG := hP.gone _ (List.getElem_mem hkl)
      have hT := List.take_succ_eq_append_getElem hkl
      obtain ⟨⟨pB, o⟩, hp⟩ : ∃ p, l[k] = p := ⟨_, rfl⟩
      rw [hp] at e1 hE hG hT
      have HT := hide (show (l.take (k + 1)).map (fun p => p.2.val) = (l.take k).map (fun p => p.2.val) ++ [Value.slice o.A o.n o.c] by rw [hT, List.map_append]; rfl)
      dsimp only at e1 hE hG
      subst hA
      cases pB with
      | none =>
        have hG2 := hG rfl
        subst hG2
        obtain ⟨b9, hb9⟩ : ∃ x, wr.heap.size = x := ⟨_, rfl⟩
        have hS1 := hS.blkAt 119 #[.slice none 0 0] hb9
        obtain ⟨y1, y2, y3, _⟩ := hS1.rules 0 (g := g) (t := 27) rfl
        have y5 := (y1 0).trans (show _ = some (.slice A' k c') from rfl)
        obtain ⟨z1, z2, z3, _⟩ := hS1.rules 2 (g := b9) (t := 119) rfl
        have z5 := (z1 0).trans (show _ = some (.slice none 0 0) from rfl)
        have HS1 := hide hS1
        have HB9 := hide hb9
        obtain ⟨w1, hw1⟩ : ∃ x, wr.alloc (.cells #[.slice none 0 0] 119) = x := ⟨_, rfl⟩
        have HW1 := hide hw1
        rw [hw1] at y2 y3 y5 z2 z3 z5 HS1
        have z6 := (World.cell?_alloc_lt _ (.cells #[.slice none 0 0] 119) _ z3).trans z5
        have y6 := (World.cell?_alloc_lt _ (.cells #[.slice none 0 0] 119) _ y3).trans y5
        clear hc hE hG hP hT hp had hS hS1 hb9 hw1 x1 y1 z1
        go_wp2_with fail
        rw [HW1.out, HB9.out]
        go_region_law (first
          | (refine step_app1d (cs := #[.slice none 0 0]) rfl (.tmp 29) (.tmp 33) 24 rfl (F := No) (W := w) sObj (items := _ :: _ :: _) HS1.out 1 (n := k) rfl rfl rfl (by simp) rfl rfl (by omega) ?_
             intro A7 c7 w7 hS7 hC7
             obtain ⟨u1, u2, u3, _⟩ := hS7.rules 0 (g := g) (t := 27) rfl
             (have u5 := (u1 0).trans (show _ = some (.slice A' k c') from rfl))
             clear u1 hC7))
        all_goals
          go_wp2_with fail
          go_roundw
          case rel => exact ⟨k + 1, A7, c7, by omega, by go_num, by
            rw [HT.out]
            exact (hS7.set_ 0 (g := g) (t := 27) rfl 0 (.slice A7 (k + 1) c7)).sub (List.sublist_append_left [_, _] [_])⟩
          case measure => simp [intOf]; omega
      | some B =>
        obtain ⟨z3, z5, _⟩ := hE B rfl
        have z6 := (World.cell?_alloc_lt _ (.cells #[.slice o.A o.n o.c] 119) _ z3).trans z5
        have y6 := (World.cell?_alloc_lt _ (.cells #[.slice o.A o.n o.c] 119) _ x3).trans x5
        have HS1 := hide hS
        obtain ⟨oA, on, oc, ofs⟩ := o
        dsimp only at z5 z6 y6 HT
        clear hc hE hG hP hT hp had hS x1
        go_wp2_with fail
        go_region_law (first
          | (refine step_app1d (cs := #[.slice oA on oc]) rfl (.tmp 29) (.tmp 33) 24 rfl (F := No) (W := w) sObj (items := _ :: _ :: _) HS1.out 1 (n := k) rfl rfl rfl (by simp) rfl rfl (by omega) ?_
             intro A7 c7 w7 hS7 hC7
             obtain ⟨u1, u2, u3, _⟩ := hS7.rules 0 (g := g) (t := 27) rfl
             (have u5 := (u1 0).trans (show _ = some (.slice A' k c') from rfl))
             clear u1 hC7))
        all_goals
          go_wp2_with fail
          go_roundw
          case rel => exact ⟨k + 1, A7, c7, by omega, by go_num, by
            rw [HT.out]
            exact hS7.set_ 0 (g := g) (t := 27) rfl 0 (.slice A7 (k + 1) c7)⟩
          case measure => simp [intOf]; omega
    · obtain rfl : k = N := by omega
      rw [List.take_of_length_le (by rw [HLL.out]; exact Nat.le_refl _)] at hS
      have hO : ObsRd wr (fun _ => True) A' k (l.map (·.2)) := ⟨by have := hS.rd_ 1 rfl; rw [List.map_map]; exact this, (HPT.out wr hS.below_).obs⟩
      have hF4 : ∀ o ∈ l.map (·.2), o.n ≤ 1000 := fun o ho => by
        obtain ⟨p, hp, rfl⟩ := List.mem_map.1 ho
        have := H4.out p hp
        omega
      have CF := found_any wr A' (some ⟨Bm, 0, none⟩) k c' 8 8 (l.map (·.2)) regs gs HOB.out hO (HRG.out wr hS.below_) (by omega) (by omega) hF4 HVG.out HVR.out
      rw [(fndAll_eq HVG.out HVR.out).1, HLV.out] at CF
      generalize (fndAll gs regs).2 = DD at CF
      have HCF := hide CF
      have HS := hide hS
      clear hO hF4 CF hS x1 hk
      go_wp2_with fail
      refine HCF.out.mono ?_
      rintro e w3 ⟨A5, n5, c5, A6, c6, rfl, hP5⟩
      have HFIN := hide (show Sep No w w3 [rowI 3 1 A5 n5 c5 (ints L)] from by
        have h1 := HS.out.consNew hP5.below_ (rowI 3 1 A5 n5 c5 (ints L)) (hP5.get 0 rfl) (fun g hg => (hP5.lo 0 rfl g hg).resolve_left (fun h => h))
        exact h1.sub (List.sublist_append_left [_] [_, _]))
      clear hP5 HS HCF x2 x3 x5 x6
      go_wp2_with fail
      go_ret
      exact ⟨A5, n5, c5, rfl, HFIN.out⟩
end Go.Proofs.Ytjphckfbbiehdaa

namespace Go.Proofs.Ytjphckfbbiehdaa
open Go.RowKit

set_option maxHeartbeats 800000 in
theorem index_any (w : World) (A : Option Addr) (n c : Nat) (xs : List Int) (x : Int) (hn : n ≤ 1000) (h : Rd w (fun _ => True) 1 A n (ints xs)) :
    Calls Try.prog 157 #[.slice A n c, .int .i64 x] w fun e w' => (∃ r : Int, e = .returned (.int .i64 r) ∧ (0 ≤ r ↔ x ∈ xs)) ∧ w' = w := by
  have hl : xs.length = n := by have := h.1; simpa using this
  have HL := hide hl
  clear hl
  go_enter Try.func157, Try.ntmps157
  go_wp2_with fail
  go_loopw [8] (fun i wr => wr = w ∧ ∃ k : Nat, k ≤ n ∧ i = .int .i64 k ∧ Hid (x ∉ xs.take k)) (fun i _ => n - (intOf i).toNat)
  case atStart => exact ⟨rfl, 0, by omega, rfl, by simp [Hid]⟩
  case round =>
    obtain ⟨rfl, k, hk, rfl, hnot⟩ := hrel
    by_cases hlt : k < n
    · obtain ⟨ad, rfl, hb, _, hc⟩ := h.at_ hlt
      have hkl : k < xs.length := by rw [HL.out]; exact hlt
      have hcell := hc (.int .i64 xs[k]) (by simp [List.getElem?_eq_getElem hkl])
      obtain ⟨y, hy⟩ : ∃ y, xs[k] = y := ⟨_, rfl⟩
      rw [hy] at hcell
      have HY := hide hy
      clear hc hy
      by_cases hx : x = y
      · have hx2 : (x == y) = true := by simp [hx]
        have HX := hide (show x ∈ xs from by rw [hx, ← HY.out]; exact List.getElem_mem hkl)
        have hw0 : wr.cell? (ad.add k) = some (.int .i64 y) := hcell
        clear hx
        go_wp2_with fail
        go_ret
        exact ⟨⟨_, rfl, ⟨fun _ => HX.out, fun _ => by omega⟩⟩, rfl⟩
      · have hx2 : (x == y) = false := by simp [hx]
        have HX := hide hx
        clear hx
        go_wp2_with fail
        go_roundw
        case rel => exact ⟨by first | trivial | rfl, k + 1, by omega, by go_num, by
          have h1 := hnot.out
          have h2 := HX.out
          have h3 := HY.out
          show x ∉ _
          rw [List.take_succ_eq_append_getElem hkl, h3]; simp only [List.mem_append, List.mem_singleton, h1, h2, or_self, not_false_eq_true]⟩
        case measure => simp [intOf]; omega
    · go_wp2_with fail
      go_ret
      have h1 := hnot.out
      rw [List.take_of_length_le (by rw [HL.out]; omega)] at h1
      exact ⟨⟨-1, rfl, ⟨fun h => by omega, fun h => absurd h h1⟩⟩, rfl⟩
theorem containsI_any (w : World) (A : Option Addr) (n c : Nat) (xs : List Int) (x : Int) (hn : n ≤ 1000) (h : Rd w (fun _ => True) 1 A n (ints xs)) :
    Calls Try.prog 104 #[.slice A n c, .int .i64 x] w fun e w' => e = .returned (.bool (decide (x ∈ xs))) ∧ w' = w := by
  go_enter Try.func104, Try.ntmps104
  go_wp2_with fail
  refine (index_any w A n c xs x hn h).mono ?_
  rintro e w1 ⟨⟨r, rfl, hr⟩, rfl⟩
  have HB := hide (show decide (x ∈ xs) = decide (0 ≤ r) by rw [decide_eq_decide]; exact hr.symm)
  clear hr
  go_wp2_with fail
  go_ret
  exact ⟨ret_bool HB.out.symm, rfl⟩
end Go.Proofs.Ytjphckfbbiehdaa
