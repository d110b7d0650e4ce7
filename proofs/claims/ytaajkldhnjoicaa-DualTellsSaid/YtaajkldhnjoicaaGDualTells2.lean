/- Counts and traces: the reference's least, greatest, and whether numbers solve a graph. Counts and traces: the reference's greatest, and whether numbers solve a graph. The law DualTells: the walk. -/
import Derived.Test.YtaajkldhnjoicaaGDualTells1
import Derived.Deep.RegionHeld3
import Derived.Test.YtaajkldhnjoicaaGGraphTells1
set_option linter.unusedSimpArgs false
set_option linter.unusedVariables false
namespace Go.Proofs.Ytaajkldhnjoicaa
open Go.RowKit

def ptlK (gs : List (List Val)) (vs : List Val) (n : Nat) (p : Nat → Bool) (k : Nat) : List Int := (List.range k).map fun j => pt gs vs n p j
theorem ptlK_snoc (gs : List (List Val)) (vs : List Val) (n : Nat) (p : Nat → Bool) (k : Nat) : ptlK gs vs n p (k + 1) = ptlK gs vs n p k ++ [pt gs vs n p k] := by simp [ptlK, List.range_succ]
theorem ptlK_all (gs : List (List Val)) (vs : List Val) (n : Nat) (p : Nat → Bool) : ptlK gs vs n p n = ptl gs vs n p := rfl
theorem sBool : SliceT Try.prog 75 4 1 1 := SliceT.mk_ Try.underlying75 (z := .bool false) (by kernel_rfl) rfl (by omega)
theorem mem_snoc_ {l : List Int} {z x : Int} : x ∈ l ++ [z] ↔ x ∈ l ∨ x = z := by simp

set_option maxRecDepth 100000 in
set_option maxHeartbeats 8000000 in
theorem refLeast_any (w : World) (AO AR : Option Addr) (nO cO nR cR : Nat) (obs : List Ob) (roots : List Val) (gs : List (List Val)) (h3 : obs.map Ob.fields = gs) (hO : ObsRd w (fun _ => True) AO nO obs) (hR : Rd w (fun _ => True) 2 AR nR (vals roots)) (hG : GOk nO nR obs roots) :
    Calls Try.prog 40 #[.agg #[.slice AO nO cO, .slice AR nR cR]] w fun e w' => ∃ A c, e = .returned (.slice A nO c) ∧ Sep No w w' [rowI 3 1 A nO c (ints (ptl gs roots nO fun x => decide ((x : Int) ∈ reachR gs roots)))] := by
  have hn := hG.nO_
  have hgl : gs.length = nO := by rw [← h3]; exact hG.len
  have hGR := graphRd_of hO (cO := cO) hR (cR := cR)
  rw [h3] at hGR
  have hOK := reach_ok (gs := gs) (vs := roots)
  rw [hgl] at hOK
  have C1 := hide (fun w' (hb : Below w.heap.size w w') => reach_any w' _ gs roots (hGR.below hb) (by omega) (by have := roots_len hR; have := hG.nR_; omega) (fun fs hfs => by rw [← h3] at hfs; have := hG.fs fs hfs; omega))
  have CP := hide (fun (w' : World) (hb : Below w.heap.size w w') (A : Option Addr) (c : Nat) (bs : List Bool) (j : Nat) (hT : Rd w' (fun _ => True) 1 A nO (bls bs)) => pointed_any w' AO AR A nO cO nR cR c obs roots gs bs j h3 (hO.below hb) (hR.below hb) hT hG)
  have hS0 := (Sep.nil No w).blkAt 25 #[.slice AO nO cO, .slice AR nR cR] rfl
  obtain ⟨a1, a2, a3, a4⟩ := hS0.rules 0 (g := w.heap.size) (t := 25) rfl
  have a5 := a1 0
  have a6 := a1 1
  have HS0 := hide hS0
  have HRNG := hide hOK.rng
  have HLEN := hide hOK.len
  clear hS0 a1 a4 hO hR hG h3 hgl hGR hOK
  obtain ⟨L, hL⟩ : ∃ L, reachR gs roots = L := ⟨_, rfl⟩
  rw [hL] at HRNG HLEN
  simp only [hL] at C1 ⊢
  clear hL
  go_enter Try.func40, Try.ntmps40
  go_wp2_with (first
    | (at_make
       refine wpList_make rfl (.tmp 10) (.tmp 10) 75 rfl HS0.out Try.underlying75 bInfo (by omega) .i64 .i64 nO rfl rfl (by omega) ?_
       intro w1 hS1 hb1
       rw [bMade, World.size_alloc] at hS1
       obtain ⟨b1, b2, b3, b4⟩ := hS1.rules 0 (g := w.heap.size) (t := 25) rfl
       (have b5 := b1 0)
       (have b6 := b1 1)
       (have HS1 := hide hS1)
       clear hS1 hb1 b1 b4))
  clear HS0 a2 a3 a5 a6
  refine (C1.out _ HS1.out.below_).mono ?_
  rintro e w2 ⟨A, n, c, rfl, hP⟩
  have hLn : L.length = n := by have := (hP.rd_ 0 rfl).1; simpa using this
  have HLN := hide hLn
  have hn2 : n ≤ nO := by rw [← hLn]; exact HLEN.out
  have HS2 := hide (sepNewR HS1.out hP)
  have HI0 := hide ((BlS.zero nO).iff (Q := fun j => (j : Int) ∈ L.take 0) (fun j _ => by simp))
  clear hP HS1 C1 hLn b2 b3 b5 b6
  go_wp2_with fail
  go_loopw [15] (fun s wr => ∃ (k : Nat) (bs : List Bool), k ≤ n ∧ s = .int .i64 k ∧ Hid (BlS nO bs (fun j => (j : Int) ∈ L.take k)) ∧ Sep No w wr [blkI w.heap.size 25 #[.slice AO nO cO, .slice AR nR cR], rowI 4 1 (some ⟨w.heap.size + 1, 0, none⟩) nO nO (bls bs), rowI 3 1 A n c (ints L)]) (fun s _ => n - (intOf s).toNat)
  case atStart => exact ⟨0, _, by omega, rfl, HI0, HS2.out⟩
  case round =>
    clear HS2 HI0
    obtain ⟨k, bs, hk, rfl, HI, hS⟩ := hrel
    by_cases hlt : k < n
    · have hkl : k < L.length := by rw [HLN.out]; exact hlt
      obtain ⟨ad, hA, _, had, hc⟩ := (hS.rd_ 2 rfl).at_ hlt
      have e0 := hc _ (ints_get' L k hkl)
      obtain ⟨r0, r1⟩ := HRNG.out _ (List.getElem_mem hkl)
      obtain ⟨z, hz⟩ := int_nat r0
      have HTK := hide (List.take_succ_eq_append_getElem hkl)
      rw [hz] at e0 r1 HTK
      have hz2 : z < nO := by omega
      obtain ⟨f1, f2⟩ := bls_cellAt (hS.get 1 rfl) z hz2
      obtain ⟨y, hy⟩ : ∃ y, bs.getD z false = y := ⟨_, rfl⟩
      rw [hy] at f1
      have hsg := hS.hi 1 rfl (w.heap.size + 1) rfl
      have hS3 := hS.store 1 (g := w.heap.size + 1) rfl z (.bool true)
      rw [bls_set] at hS3
      have HS3 := hide hS3
      have HI3 := hide (HI.out.set_ (Q := fun j => (j : Int) ∈ L.take (k + 1)) hz2 (fun j _ => by rw [HTK.out, mem_snoc_, Int.ofNat_inj]))
      rw [hA]
      have HA := hide hA
      clear hS hS3 hc hz r0 hy hA
      go_wp2_with fail
      go_roundw
      case rel => exact ⟨k + 1, _, by omega, by go_num, HI3, by rw [← HA.out]; exact HS3.out⟩
      case measure => simp [intOf]; omega
    · obtain rfl : k = n := by omega
      have HB := hide (show ∀ j, j < nO → bs.getD j false = decide ((j : Int) ∈ L) from fun j hj => by
        have h1 := HI.out.2 j hj
        rw [List.take_of_length_le (by rw [HLN.out]; omega)] at h1
        rw [Bool.eq_iff_iff, decide_eq_true_iff]; exact h1)
      have HPT := hide (show ptlK gs roots nO (fun x => bs.getD x false) nO = ptl gs roots nO (fun x => decide ((x : Int) ∈ L)) from ptl_congr HB.out)
      have HS := hide (hS.nilRow0 3 1)
      clear hS HI
      go_wp2_with fail
      go_loopw [6, 7] (fun s6 s wr => ∃ (k c : Nat) (A : Option Addr), k ≤ nO ∧ s = .int .i64 k ∧ s6 = .slice A k c ∧ Sep No w wr [rowI 3 1 A k c (ints (ptlK gs roots nO (fun x => bs.getD x false) k)), blkI w.heap.size 25 #[.slice AO nO cO, .slice AR nR cR], rowI 4 1 (some ⟨w.heap.size + 1, 0, none⟩) nO nO (bls bs)]) (fun _ s _ => nO - (intOf s).toNat)
      case atStart => exact ⟨0, 0, none, by omega, rfl, rfl, HS.out.sub (by simp [ptlK])⟩
      case round =>
        clear HS
        obtain ⟨k4, c4, A4, hk4, rfl, rfl, hS⟩ := hrel
        obtain ⟨x1, x2, x3, x4⟩ := hS.rules 1 (g := w.heap.size) (t := 25) rfl
        have x5 := x1 0
        have x6 := x1 1
        by_cases hl4 : k4 < nO
        · have HC := hide (CP.out wr hS.below_ (some ⟨w.heap.size + 1, 0, none⟩) nO bs k4 (hS.rd_ 2 rfl))
          have HSN := hide (ptlK_snoc gs roots nO (fun x => bs.getD x false) k4)
          obtain ⟨y, hy⟩ : ∃ y, pt gs roots nO (fun x => bs.getD x false) k4 = y := ⟨_, rfl⟩
          rw [hy] at HC HSN
          have HS := hide hS
          clear hS x1 x4 hy
          go_wp2_with fail
          refine HC.out.mono ?_
          rintro e w5 ⟨rfl, hb5⟩
          have hS5 := HS.out.below hb5
          clear HS HC hb5 x2 x3 x5 x6
          go_wp2_with (first
            | (at_builtin
               refine wpList_app1 (cs := #[.int .i64 y]) rfl (.tmp 29) (.tmp 34) 35 rfl sInt hS5 0 (n := k4) rfl rfl rfl (by simp) rfl rfl (by omega) ?_
               intro A6 c6 w6 hS6 hC6))
          go_roundw
          case rel => exact ⟨k4 + 1, c6, A6, by omega, by go_num, rfl, by rw [HSN.out, ints_snoc_]; exact hS6⟩
          case measure => simp [intOf]; omega
        · obtain rfl : k4 = nO := by omega
          have HS := hide hS
          clear hS x1 x4
          go_wp2_with fail
          go_ret
          exact ⟨A4, c4, rfl, by rw [← HPT.out]; exact HS.out.sub (by simp)⟩
end Go.Proofs.Ytaajkldhnjoicaa

namespace Go.Proofs.Ytaajkldhnjoicaa
open Go.RowKit

theorem bset_false (bs : List Bool) (j x : Nat) : (bs.set j false).getD x false = (bs.getD x false && !(x == j)) := by
  rw [List.getD_eq_getElem?_getD, List.getD_eq_getElem?_getD, List.getElem?_set]
  by_cases e : j = x
  · subst e
    rw [if_pos rfl]
    split <;> simp
  · rw [if_neg e]
    have : (x == j) = false := by rw [beq_eq_false_iff_ne]; exact fun h => e h.symm
    simp [this]
theorem bset_off (bs : List Bool) (j : Nat) : (fun x => (bs.set j false).getD x false) = offP (fun x => bs.getD x false) j := funext fun x => by rw [bset_false]; rfl
theorem pt_nonneg (gs : List (List Val)) (vs : List Val) (n : Nat) (p : Nat → Bool) (j : Nat) : 0 ≤ pt gs vs n p j := by
  have h1 := cnt_nonneg (tgts vs) j
  have h4 : 0 ≤ sumN (fun x => if p x = true then cnt (tgts (fieldsI gs (x : Int))) j else 0) n := sumN_nonneg fun x _ => by
    have := cnt_nonneg (tgts (fieldsI gs (x : Int))) j
    split <;> omega
  unfold pt
  omega
theorem bset_true {bs : List Bool} {k j : Nat} (hk : k < bs.length) (h : ∀ j, j < k → bs.getD j false = true) (hj : j < k + 1) : (bs.set k true).getD j false = true := by
  rw [bget_set hk]
  split
  · rfl
  · exact h j (by omega)

set_option maxRecDepth 100000 in
set_option maxHeartbeats 8000000 in
theorem refGreatest_any (w : World) (AO AR : Option Addr) (nO cO nR cR : Nat) (obs : List Ob) (roots : List Val) (gs : List (List Val)) (h3 : obs.map Ob.fields = gs) (hO : ObsRd w (fun _ => True) AO nO obs) (hR : Rd w (fun _ => True) 2 AR nR (vals roots)) (hG : GOk nO nR obs roots) :
    Calls Try.prog 41 #[.agg #[.slice AO nO cO, .slice AR nR cR]] w fun e w' => ∃ A c p, e = .returned (.slice A nO c) ∧ Gst gs roots nO p ∧ Sep No w w' [rowI 3 1 A nO c (ints (ptl gs roots nO p))] := by
  have hn := hG.nO_
  have CP := hide (fun (w' : World) (hb : Below w.heap.size w w') (A : Option Addr) (c : Nat) (bs : List Bool) (j : Nat) (hT : Rd w' (fun _ => True) 1 A nO (bls bs)) => pointed_any w' AO AR A nO cO nR cR c obs roots gs bs j h3 (hO.below hb) (hR.below hb) hT hG)
  have hS0 := (Sep.nil No w).blkAt 25 #[.slice AO nO cO, .slice AR nR cR] rfl
  obtain ⟨a1, a2, a3, a4⟩ := hS0.rules 0 (g := w.heap.size) (t := 25) rfl
  have a5 := a1 0
  have a6 := a1 1
  have HS0 := hide hS0
  clear hS0 a1 a4 hO hR hG h3
  go_enter Try.func41, Try.ntmps41
  go_wp2_with (first
    | (at_make
       refine wpList_make rfl (.tmp 11) (.tmp 11) 75 rfl HS0.out Try.underlying75 bInfo (by omega) .i64 .i64 nO rfl rfl (by omega) ?_
       intro w1 hS1 hb1
       rw [bMade, World.size_alloc] at hS1
       (have HS1 := hide hS1)
       clear hS1 hb1))
  clear HS0 a2 a3 a5 a6
  go_loopw [4] (fun s wr => ∃ (k : Nat) (bs : List Bool), k ≤ nO ∧ s = .int .i64 k ∧ Hid (bs.length = nO) ∧ Hid (∀ j, j < k → bs.getD j false = true) ∧ Sep No w wr [blkI w.heap.size 25 #[.slice AO nO cO, .slice AR nR cR], rowI 4 1 (some ⟨w.heap.size + 1, 0, none⟩) nO nO (bls bs)]) (fun s _ => nO - (intOf s).toNat)
  case atStart => exact ⟨0, _, by omega, rfl, List.length_replicate, fun j hj => by omega, HS1.out⟩
  case round =>
    clear HS1
    obtain ⟨k, bs, hk, rfl, HBL, HI, hS⟩ := hrel
    by_cases hlt : k < nO
    · obtain ⟨f1, f2⟩ := bls_cellAt (hS.get 1 rfl) k hlt
      obtain ⟨y, hy⟩ : ∃ y, bs.getD k false = y := ⟨_, rfl⟩
      rw [hy] at f1
      have hsg := hS.hi 1 rfl (w.heap.size + 1) rfl
      have hS3 := hS.store 1 (g := w.heap.size + 1) rfl k (.bool true)
      rw [bls_set] at hS3
      have HS3 := hide hS3
      have HI3 := hide (fun j (hj : j < k + 1) => bset_true (by rw [HBL.out]; exact hlt) HI.out hj)
      have HBL3 := hide (show (bs.set k true).length = nO by rw [List.length_set]; exact HBL.out)
      clear hS hS3 hy HI HBL
      go_wp2_with fail
      go_roundw
      case rel => exact ⟨k + 1, _, by omega, by go_num, HBL3, HI3, HS3.out⟩
      case measure => simp [intOf]; omega
    · obtain rfl : k = nO := by omega
      have HS := hide hS
      have HI0 := hide (GsI.start (gs := gs) (vs := roots) (p := fun x => bs.getD x false) HI.out)
      clear hS HI
      go_wp2_with fail
      go_loopw [5] (fun s wr => ∃ (t : Nat) (bs : List Bool), t ≤ k ∧ s = .int .i64 t ∧ Hid (bs.length = k) ∧ Hid (GsI gs roots k t (fun x => bs.getD x false)) ∧ Sep No w wr [blkI w.heap.size 25 #[.slice AO k cO, .slice AR nR cR], rowI 4 1 (some ⟨w.heap.size + 1, 0, none⟩) k k (bls bs)]) (fun s _ => k - (intOf s).toNat)
      case atStart => exact ⟨0, bs, by omega, rfl, HBL, HI0, HS.out⟩
      case round =>
        clear HS HI0 HBL
        obtain ⟨t, bs, ht, rfl, HBL, HI, hS⟩ := hrel
        by_cases hlt : t < k
        · have HJ0 := hide HI.out.in_
          have HS := hide hS
          clear hS HI
          go_wp2_with fail
          go_loopw [6] (fun s wr => ∃ (j : Nat) (bs : List Bool), j ≤ k ∧ s = .int .i64 j ∧ Hid (bs.length = k) ∧ Hid (GsJ gs roots k t j (fun x => bs.getD x false)) ∧ Sep No w wr [blkI w.heap.size 25 #[.slice AO k cO, .slice AR nR cR], rowI 4 1 (some ⟨w.heap.size + 1, 0, none⟩) k k (bls bs)]) (fun s _ => k - (intOf s).toNat)
          case atStart => exact ⟨0, bs, by omega, rfl, HBL, HJ0, HS.out⟩
          case round =>
            clear HS HJ0 HBL
            obtain ⟨j, bs, hj, rfl, HBL, HJ, hS⟩ := hrel
            by_cases hlj : j < k
            · obtain ⟨x1, x2, x3, x4⟩ := hS.rules 0 (g := w.heap.size) (t := 25) rfl
              have x5 := x1 0
              have x6 := x1 1
              have HC := hide (CP.out wr hS.below_ (some ⟨w.heap.size + 1, 0, none⟩) k bs j (hS.rd_ 1 rfl))
              have HNN := hide (pt_nonneg gs roots k (fun x => bs.getD x false) j)
              have HST := hide (fun h => HJ.out.stay h)
              have HOF := hide (fun h => HJ.out.off hlj h)
              rw [← bset_off] at HOF
              obtain ⟨y, hy⟩ : ∃ y, pt gs roots k (fun x => bs.getD x false) j = y := ⟨_, rfl⟩
              rw [hy] at HC HNN HST HOF
              have HS := hide hS
              clear hS x1 x4 hy HJ
              go_wp2_with fail
              refine HC.out.mono ?_
              rintro e w5 ⟨rfl, hb5⟩
              have hS5 := HS.out.below hb5
              clear HS HC hb5 x2 x3 x5 x6
              obtain ⟨f1, f2⟩ := bls_cellAt (hS5.get 1 rfl) j hlj
              obtain ⟨y2, hy2⟩ : ∃ y, bs.getD j false = y := ⟨_, rfl⟩
              rw [hy2] at f1
              have hsg := hS5.hi 1 rfl (w.heap.size + 1) rfl
              have hS3 := hS5.store 1 (g := w.heap.size + 1) rfl j (.bool false)
              rw [bls_set] at hS3
              have HS3 := hide hS3
              have HS5 := hide hS5
              have HBL3 := hide (show (bs.set j false).length = k by rw [List.length_set]; exact HBL.out)
              clear hS3 hS5 hy2
              by_cases h0 : y = 0
              · have k1 : (y == 0) = true := by simp [h0]
                have HJ2 := hide (HOF.out h0)
                clear HST HOF HNN h0 HBL
                go_wp2_with fail
                go_roundw
                case rel => exact ⟨j + 1, _, by omega, by go_num, HBL3, HJ2, HS3.out⟩
                case measure => simp [intOf]; omega
              · have k1 : (y == 0) = false := by simp [h0]
                have HJ2 := hide (HST.out (by have := HNN.out; omega))
                clear HST HOF HNN h0 HBL3 HS3
                go_wp2_with fail
                go_roundw
                case rel => exact ⟨j + 1, _, by omega, by go_num, HBL, HJ2, HS5.out⟩
                case measure => simp [intOf]; omega
            · obtain rfl : j = k := by omega
              have HI2 := hide HJ.out.out
              have HS := hide hS
              clear hS HJ
              go_wp2_with fail
              go_roundw
              case rel => exact ⟨t + 1, _, by omega, by go_num, HBL, HI2, HS.out⟩
              case measure => simp [intOf]; omega
        · obtain rfl : t = k := by omega
          have HF := hide HI.out.done
          have HS := hide (hS.nilRow0 3 1)
          clear hS HI
          go_wp2_with fail
          go_loopw [7, 8] (fun s6 s wr => ∃ (k c : Nat) (A : Option Addr), k ≤ t ∧ s = .int .i64 k ∧ s6 = .slice A k c ∧ Sep No w wr [rowI 3 1 A k c (ints (ptlK gs roots t (fun x => bs.getD x false) k)), blkI w.heap.size 25 #[.slice AO t cO, .slice AR nR cR], rowI 4 1 (some ⟨w.heap.size + 1, 0, none⟩) t t (bls bs)]) (fun _ s _ => t - (intOf s).toNat)
          case atStart => exact ⟨0, 0, none, by omega, rfl, rfl, HS.out.sub (by simp [ptlK])⟩
          case round =>
            clear HS
            obtain ⟨k4, c4, A4, hk4, rfl, rfl, hS⟩ := hrel
            obtain ⟨x1, x2, x3, x4⟩ := hS.rules 1 (g := w.heap.size) (t := 25) rfl
            have x5 := x1 0
            have x6 := x1 1
            by_cases hl4 : k4 < t
            · have HC := hide (CP.out wr hS.below_ (some ⟨w.heap.size + 1, 0, none⟩) t bs k4 (hS.rd_ 2 rfl))
              have HSN := hide (ptlK_snoc gs roots t (fun x => bs.getD x false) k4)
              obtain ⟨y, hy⟩ : ∃ y, pt gs roots t (fun x => bs.getD x false) k4 = y := ⟨_, rfl⟩
              rw [hy] at HC HSN
              have HS := hide hS
              clear hS x1 x4 hy
              go_wp2_with fail
              refine HC.out.mono ?_
              rintro e w5 ⟨rfl, hb5⟩
              have hS5 := HS.out.below hb5
              clear HS HC hb5 x2 x3 x5 x6
              go_wp2_with (first
                | (at_builtin
                   refine wpList_app1 (cs := #[.int .i64 y]) rfl (.tmp 48) (.tmp 53) 35 rfl sInt hS5 0 (n := k4) rfl rfl rfl (by simp) rfl rfl (by omega) ?_
                   intro A6 c6 w6 hS6 hC6))
              go_roundw
              case rel => exact ⟨k4 + 1, c6, A6, by omega, by go_num, rfl, by rw [HSN.out, ints_snoc_]; exact hS6⟩
              case measure => simp [intOf]; omega
            · obtain rfl : k4 = t := by omega
              have HS := hide hS
              clear hS x1 x4
              go_wp2_with fail
              go_ret
              exact ⟨A4, c4, _, rfl, HF.out, HS.out.sub (by simp [ptlK_all])⟩

def posB (x : Int) : Bool := decide (0 < x)
theorem bls_snoc (l : List Bool) (b : Bool) : bls l ++ [.bool b] = bls (l ++ [b]) := by simp [bls]
theorem posB_get {cs : List Int} {n : Nat} (h : cs.length = n) (x : Nat) (hx : x < n) : (cs.map posB).getD x false = sp cs x := by
  rw [List.getD_eq_getElem?_getD]
  unfold sp
  rw [List.getD_eq_getElem?_getD, List.getElem?_map]
  simp [List.getElem?_eq_getElem (show x < cs.length by omega), posB]
set_option maxRecDepth 100000 in
set_option maxHeartbeats 8000000 in
theorem refSolves_any (w : World) (AO AR AC : Option Addr) (nO cO nR cR cC : Nat) (obs : List Ob) (roots : List Val) (gs : List (List Val)) (cs : List Int) (h3 : obs.map Ob.fields = gs) (hO : ObsRd w (fun _ => True) AO nO obs) (hR : Rd w (fun _ => True) 2 AR nR (vals roots)) (hC : Rd w (fun _ => True) 1 AC nO (ints cs)) (hG : GOk nO nR obs roots) :
    Calls Try.prog 42 #[.agg #[.slice AO nO cO, .slice AR nR cR], .slice AC nO cC] w fun e w' => e = .returned (.bool (decide (ptl gs roots nO (sp cs) = cs))) ∧ Below w.heap.size w w' := by
  have hn := hG.nO_
  have CP := hide (fun (w' : World) (hb : Below w.heap.size w w') (A : Option Addr) (c : Nat) (bs : List Bool) (j : Nat) (hT : Rd w' (fun _ => True) 1 A nO (bls bs)) => pointed_any w' AO AR A nO cO nR cR c obs roots gs bs j h3 (hO.below hb) (hR.below hb) hT hG)
  have hS0 := (Sep.nil No w).blkAt 25 #[.slice AO nO cO, .slice AR nR cR] rfl
  obtain ⟨a1, a2, a3, a4⟩ := hS0.rules 0 (g := w.heap.size) (t := 25) rfl
  have a5 := a1 0
  have a6 := a1 1
  have hcl : cs.length = nO := by have := hC.1; simpa using this
  have HCL := hide hcl
  have HC := hide hC
  have HS0 := hide (hS0.nilRow0 4 1)
  clear hS0 a1 a4 hO hR hG h3 hC hcl
  go_enter Try.func42, Try.ntmps42
  go_wp2_with fail
  go_loopw [5, 11] (fun s5 s wr => ∃ (k c : Nat) (A : Option Addr), k ≤ nO ∧ s = .int .i64 k ∧ s5 = .slice A k c ∧ Sep No w wr [rowI 4 1 A k c (bls ((cs.take k).map posB)), blkI w.heap.size 25 #[.slice AO nO cO, .slice AR nR cR]]) (fun _ s _ => nO - (intOf s).toNat)
  case atStart => exact ⟨0, 0, none, by omega, rfl, rfl, HS0.out.sub (by simp [bls])⟩
  case round =>
    clear HS0 a2 a3 a5 a6
    obtain ⟨k, c, A, hk, rfl, rfl, hS⟩ := hrel
    by_cases hlt : k < nO
    · have hkl : k < cs.length := by rw [HCL.out]; exact hlt
      obtain ⟨ad, hA, _, had, hc⟩ := (HC.out.below hS.below_).at_ hlt
      have e0 := hc _ (ints_get' cs k hkl)
      have HTK := hide (List.take_succ_eq_append_getElem hkl)
      obtain ⟨x, hx⟩ : ∃ x, cs[k] = x := ⟨_, rfl⟩
      rw [hx] at e0 HTK
      have HSN := hide (show (cs.take (k + 1)).map posB = (cs.take k).map posB ++ [posB x] from by rw [HTK.out, List.map_append]; rfl)
      obtain ⟨b, hb⟩ : ∃ b, decide (0 < x) = b := ⟨_, rfl⟩
      have HB := hide (show posB x = b from hb)
      subst hA
      clear hc hx HTK
      go_wp2_with (first
        | (at_builtin
           refine wpList_app1 (cs := #[.bool b]) rfl (.tmp 15) (.tmp 18) 75 rfl sBool hS 0 (n := k) rfl rfl rfl (by simp) rfl rfl (by omega) ?_
           intro A6 c6 w6 hS6 hC6))
      go_roundw
      case rel => exact ⟨k + 1, c6, A6, by omega, by go_num, rfl, by rw [HSN.out, ← bls_snoc, HB.out]; exact hS6⟩
      case measure => simp [intOf]; omega
    · obtain rfl : k = nO := by omega
      have HPC := hide (show ∀ j, pt gs roots k (fun x => (cs.map posB).getD x false) j = pt gs roots k (sp cs) j from fun j => pt_congr (fun x hx => posB_get HCL.out x hx) j)
      rw [List.take_of_length_le (by rw [HCL.out]; omega)] at hS
      have HS := hide hS
      clear hS
      go_wp2_with fail
      go_loopw [8] (fun s wr => ∃ (j : Nat), j ≤ k ∧ s = .int .i64 j ∧ Hid (∀ i, i < j → pt gs roots k (sp cs) i = cs.getD i 0) ∧ Sep No w wr [rowI 4 1 A k c (bls (cs.map posB)), blkI w.heap.size 25 #[.slice AO k cO, .slice AR nR cR]]) (fun s _ => k - (intOf s).toNat)
      case atStart => exact ⟨0, by omega, rfl, fun i hi => by omega, HS.out⟩
      case round =>
        clear HS
        obtain ⟨j, hj, rfl, HI, hS⟩ := hrel
        by_cases hlj : j < k
        · have hkl : j < cs.length := by rw [HCL.out]; exact hlj
          obtain ⟨x1, x2, x3, x4⟩ := hS.rules 1 (g := w.heap.size) (t := 25) rfl
          have x5 := (x1 0).trans (show _ = some (.slice AO k cO) from rfl)
          have x6 := (x1 1).trans (show _ = some (.slice AR nR cR) from rfl)
          obtain ⟨ad, hA, _, had, hc⟩ := (HC.out.below hS.below_).at_ hlj
          have e0 := hc _ (ints_get' cs j hkl)
          have HGD := hide (show cs.getD j 0 = cs[j] from by rw [List.getD_eq_getElem?_getD, List.getElem?_eq_getElem hkl]; rfl)
          obtain ⟨x, hx⟩ : ∃ x, cs[j] = x := ⟨_, rfl⟩
          rw [hx] at e0 HGD
          have C2 := hide (CP.out wr.drew hS.drew.below_ A c (cs.map posB) j (hS.drew.rd_ 0 rfl))
          rw [HPC.out] at C2
          obtain ⟨y, hy⟩ : ∃ y, pt gs roots k (sp cs) j = y := ⟨_, rfl⟩
          rw [hy] at C2
          have HY := hide hy
          have HS := hide hS
          subst hA
          clear hS hc hx hy x1 x4
          go_wp2_with fail
          go_region_held3 (fun w' => w'.cell? ⟨w.heap.size, 0, none⟩ = some (.slice (AO) k cO) ∧ w'.cell? ⟨w.heap.size, 1, none⟩ = some (.slice AR nR cR) ∧ w'.cell? (ad.add j) = some (.int .i64 x)) (go_keep)
            ((go_at_call 97; (with_reducible refine C2.out.mono ?_); rintro e w5 ⟨rfl, hb5⟩; have hS5 := HS.out.drew.below hb5; have k1 : w5.cell? ⟨w.heap.size, 0, none⟩ = some (.slice AO k cO) := ((hS5.rules 1 (g := w.heap.size) (t := 25) rfl).1 0).trans rfl; have k2 : w5.cell? ⟨w.heap.size, 1, none⟩ = some (.slice AR nR cR) := ((hS5.rules 1 (g := w.heap.size) (t := 25) rfl).1 1).trans rfl; have k3 : w5.cell? (ad.add j) = some (.int .i64 x) := (World.cell?_of_block (a := ad.add j) (by rw [block_of_add]; exact hb5.block _ had)).trans e0; have HS5 := hide hS5; clear hS5 hb5))
          all_goals
            by_cases hxy : y = x
            · subst hxy
              have HI2 := hide (show ∀ i, i < j + 1 → pt gs roots k (sp cs) i = cs.getD i 0 from fun i hi => by
                by_cases e : i = j
                · subst e; rw [HY.out, HGD.out]
                · exact HI.out i (by omega))
              clear HI HY HGD
              go_wp2_with fail
              go_roundw
              case rel => exact ⟨j + 1, by omega, by go_num, HI2, HS5.out⟩
              case measure => simp [intOf]; omega
            · have HD := hide (show decide (ptl gs roots k (sp cs) = cs) = false from by
                rw [decide_eq_false_iff_not]
                intro h
                have h1 := ptl_get (gs := gs) (vs := roots) (sp cs) hlj
                rw [h, HY.out, HGD.out] at h1
                exact hxy h1.symm)
              have t1 : (y != x) = true := by rw [bne_iff_ne]; exact hxy
              have HB5 := hide HS5.out.below_
              clear HI HY HGD hxy
              go_wp2_with fail
              go_ret
              exact ⟨by rw [HD.out] <;> rfl, HB5.out⟩
        · have HD := hide (show decide (ptl gs roots k (sp cs) = cs) = true from by
            rw [decide_eq_true_iff]
            refine list_ext_getD (by rw [ptl_len]; exact HCL.out.symm) fun i hi => ?_
            rw [ptl_len] at hi
            rw [ptl_get _ hi]
            exact HI.out i (by omega))
          have HB5 := hide hS.below_
          clear hS HI
          go_wp2_with fail
          go_ret
          exact ⟨by rw [HD.out] <;> rfl, HB5.out⟩
end Go.Proofs.Ytaajkldhnjoicaa

namespace Go.Proofs.Ytaajkldhnjoicaa
open Go.RowKit

set_option maxRecDepth 100000 in
set_option maxHeartbeats 8000000 in
theorem dualTells_no (w : World) (AO AR AC : Option Addr) (nO cO nR cR nC cC : Nat) (obs : List Ob) (roots : List Val) (hO : ObsRd w (fun _ => True) AO nO obs) (hR : Rd w (fun _ => True) 2 AR nR (vals roots)) (hz : gcheck nO nR obs roots ≠ 0) :
    Calls Try.prog 10 #[.agg #[.slice AO nO cO, .slice AR nR cR], .slice AC nC cC] w fun e w' => e = .returned (.bool true) ∧ Below w.heap.size w w' := by
  have hB0 : Below w.heap.size w (w.alloc (.cells #[.slice AO nO cO, .slice AR nR cR] 25)) := (Below.refl _ w).alloc (Nat.le_refl _) _
  have BA := hide (Blk.new w 25 #[.slice AO nO cO, .slice AR nR cR])
  have HB0 := hide hB0
  have C1 := hide (fun w' (hb : Below w.heap.size w w') => solves_bad w' AO AR nO cO nR cR obs roots AC nC cC (hO.below hb) (hR.below hb) hz)
  have C2 := hide (fun w' (hb : Below w.heap.size w w') => least_bad w' AO AR nO cO nR cR obs roots (hO.below hb) (hR.below hb) hz)
  have C3 := hide (fun w' (hb : Below w.heap.size w w') => greatest_bad w' AO AR nO cO nR cR obs roots (hO.below hb) (hR.below hb) hz)
  have C4 := hide (fun w' (hb : Below w.heap.size w w') => refCheck_any w' AO AR nO cO nR cR obs roots (hO.below hb) (hR.below hb))
  obtain ⟨x, hx⟩ : ∃ x, gcheck nO nR obs roots = x := ⟨_, rfl⟩
  simp only [hx] at C1 C2 C3 C4
  rw [hx] at hz
  have y1 : (x != 0) = true := by rw [bne_iff_ne]; exact hz
  obtain ⟨a1, a2, a3⟩ := BA.out.rules
  clear hz hx hB0
  go_enter Try.func10, Try.ntmps10
  go_wp2_with fail
  refine (C1.out _ HB0.out).mono ?_
  rintro e w1 ⟨rfl, hb1⟩
  have HB1 := hide (HB0.out.trans (hb1.mono HB0.out.size))
  have BA1 := hide (BA.out.below_ hb1)
  clear hb1 HB0 BA C1 a1 a2 a3
  obtain ⟨a1, a2, a3⟩ := BA1.out.rules
  go_wp2_with fail
  refine (C2.out _ HB1.out).mono ?_
  rintro e w2 ⟨rfl, hb2⟩
  have HB2 := hide (HB1.out.trans (hb2.mono HB1.out.size))
  have BA2 := hide (BA1.out.below_ hb2)
  clear hb2 HB1 BA1 C2 a1 a2 a3
  obtain ⟨a1, a2, a3⟩ := BA2.out.rules
  go_wp2_with fail
  refine (C3.out _ HB2.out).mono ?_
  rintro e w3 ⟨rfl, hb3⟩
  have HB3 := hide (HB2.out.trans (hb3.mono HB2.out.size))
  have BA3 := hide (BA2.out.below_ hb3)
  clear hb3 HB2 BA2 C3 a1 a2 a3
  obtain ⟨a1, a2, a3⟩ := BA3.out.rules
  go_wp2_with fail
  refine (C4.out _ HB3.out).mono ?_
  rintro e w4 ⟨rfl, hb4⟩
  have HB4 := hide (HB3.out.trans (hb4.mono HB3.out.size))
  clear hb4 HB3 BA3 C4 a1 a2 a3
  go_wp2_with fail
  go_ret
  exact ⟨rfl, HB4.out⟩

set_option maxRecDepth 100000 in
set_option maxHeartbeats 8000000 in
theorem dualTells_ok (w : World) (AO AR AC : Option Addr) (nO cO nR cR nC cC : Nat) (obs : List Ob) (roots : List Val) (cs : List Int) (hO : ObsRd w (fun _ => True) AO nO obs) (hR : Rd w (fun _ => True) 2 AR nR (vals roots)) (hC : Rd w (fun _ => True) 1 AC nC (ints cs)) (hz : gcheck nO nR obs roots = 0) :
    Calls Try.prog 10 #[.agg #[.slice AO nO cO, .slice AR nR cR], .slice AC nC cC] w fun e w' => e = .returned (.bool true) ∧ Below w.heap.size w w' := by
  have hG := gok_of hO hz
  have hn := hG.nO_
  obtain ⟨gs, h3⟩ : ∃ gs, obs.map Ob.fields = gs := ⟨_, rfl⟩
  have hS0 := (Sep.nil No w).blkAt 25 #[.slice AO nO cO, .slice AR nR cR] rfl
  obtain ⟨a1, a2, a3, a4⟩ := hS0.rules 0 (g := w.heap.size) (t := 25) rfl
  have C1 := hide (fun (w' : World) (hb : Below w.heap.size w w') (hne : nC ≠ nO) => solves_arg w' AO AR nO cO nR cR obs roots AC nC cC (hO.below hb) (hR.below hb) hz hne)
  have C1' := hide (fun (w' : World) (hb : Below w.heap.size w w') (hne : nC = nO) => solves_ok w' AO AR nO cO nR cR obs roots gs AC cC cs h3 (hO.below hb) (hR.below hb) (by subst hne; exact hC.below hb) hz)
  have C2 := hide (fun (w' : World) (hb : Below w.heap.size w w') => least_ok w' AO AR nO cO nR cR obs roots gs h3 (hO.below hb) (hR.below hb) hz)
  have C3 := hide (fun (w' : World) (hb : Below w.heap.size w w') => greatest_ok w' AO AR nO cO nR cR obs roots gs h3 (hO.below hb) (hR.below hb) hz)
  have C4 := hide (fun w' (hb : Below w.heap.size w w') => refCheck_any w' AO AR nO cO nR cR obs roots (hO.below hb) (hR.below hb))
  have C5 := hide (fun (w' : World) (hb : Below w.heap.size w w') => refLeast_any w' AO AR nO cO nR cR obs roots gs h3 (hO.below hb) (hR.below hb) hG)
  have C6 := hide (fun (w' : World) (hb : Below w.heap.size w w') => refGreatest_any w' AO AR nO cO nR cR obs roots gs h3 (hO.below hb) (hR.below hb) hG)
  have C7 := hide (fun (w' : World) (hb : Below w.heap.size w w') (hne : nC = nO) => refSolves_any w' AO AR AC nO cO nR cR cC obs roots gs cs h3 (hO.below hb) (hR.below hb) (by subst hne; exact hC.below hb) hG)
  simp only [hz] at C4
  generalize (ptl gs roots nO fun x => decide ((x : Int) ∈ reachR gs roots)) = L1 at C2 C5
  have HS0 := hide hS0
  clear hz hS0 a4 hO hR hC hG h3
  by_cases hne : nC = nO
  · replace C7 := hide (fun w' hb => C7.out w' hb hne)
    replace C1 := hide (fun w' hb => C1'.out w' hb hne)
    clear C1'
    subst hne
    obtain ⟨b, hb⟩ : ∃ b, decide (ptl gs roots nC (sp cs) = cs) = b := ⟨_, rfl⟩
    simp only [hb] at C1 C7
    clear hb
    go_enter Try.func10, Try.ntmps10
    go_wp2_with fail
    refine (C1.out _ HS0.out.below_).mono ?_
    rintro e w1 ⟨rfl, hb1⟩
    have hS1 := HS0.out.below hb1
    have C2 := hide (C2.out w1 hS1.below_)
    obtain ⟨a1, a2, a3, a4⟩ := hS1.rules 0 (g := w.heap.size) (t := 25) rfl
    have HS1 := hide hS1
    clear hb1 hS1 HS0 C1 a4
    go_wp2_with fail
    refine C2.out.mono ?_
    rintro e w2 ⟨A2, c2, rfl, hP2⟩
    have hS2 := sepNewR HS1.out hP2
    have C3 := hide (C3.out w2 hS2.below_)
    obtain ⟨b1, b2, b3, b4⟩ := hS2.rules 0 (g := w.heap.size) (t := 25) rfl
    have HS2 := hide hS2
    clear hP2 hS2 HS1 C2 a1 a2 a3 b4
    go_wp2_with fail
    refine C3.out.mono ?_
    rintro e w3 ⟨A3, c3, L3, rfl, hl3, hP3⟩
    have hS3 := sepNewR HS2.out hP3
    have HL3 := hide hl3
    have C4 := hide (C4.out w3 hS3.below_)
    obtain ⟨a1, a2, a3, a4⟩ := hS3.rules 0 (g := w.heap.size) (t := 25) rfl
    have HS3 := hide hS3
    clear hP3 hS3 HS2 C3 b1 b2 b3 a4 hl3
    go_wp2_with fail
    refine C4.out.mono ?_
    rintro e w4 ⟨rfl, hb4⟩
    have hS4 := HS3.out.below hb4
    have C5 := hide (C5.out w4 hS4.below_)
    obtain ⟨b1, b2, b3, b4⟩ := hS4.rules 0 (g := w.heap.size) (t := 25) rfl
    have HS4 := hide hS4
    clear hb4 hS4 HS3 C4 a1 a2 a3 b4
    go_wp2_with fail
    refine C5.out.mono ?_
    rintro e w5 ⟨A5, c5, rfl, hP5⟩
    have hS5 := sepNewR HS4.out hP5
    have C8 := hide (ints_same w5 _ _ A2 A5 nC c2 c5 L1 (by omega) (hS5.rd_ 1 rfl) (hS5.rd_ 3 rfl))
    have HS5 := hide hS5
    clear hP5 hS5 HS4 C5 b1 b2 b3
    go_wp2_with fail
    refine C8.out.mono ?_
    rintro e w6 ⟨rfl, hb6⟩
    have hS6 := HS5.out.below hb6
    have C6 := hide (C6.out w6 hS6.below_)
    obtain ⟨b1, b2, b3, b4⟩ := hS6.rules 0 (g := w.heap.size) (t := 25) rfl
    have HS6 := hide hS6
    clear hb6 hS6 HS5 C8 b4
    go_wp2_with fail
    refine C6.out.mono ?_
    rintro e w7 ⟨A7, c7, p, rfl, hp, hP7⟩
    obtain rfl := HL3.out p hp
    have hS7 := sepNewR HS6.out hP7
    have C9 := hide (ints_same w7 _ _ A3 A7 nC c3 c7 _ (by omega) (hS7.rd_ 2 rfl) (hS7.rd_ 4 rfl))
    have HS7 := hide hS7
    clear hP7 hS7 HS6 C6 b1 b2 b3 HL3 hp
    go_wp2_with fail
    refine C9.out.mono ?_
    rintro e w8 ⟨rfl, hb8⟩
    have hS8 := HS7.out.below hb8
    have C7 := hide (C7.out w8 hS8.below_)
    obtain ⟨b1, b2, b3, b4⟩ := hS8.rules 0 (g := w.heap.size) (t := 25) rfl
    have b5 := b1 0
    have HS8 := hide hS8
    clear hb8 hS8 HS7 C9 b4
    go_wp2_with fail
    refine C7.out.mono ?_
    rintro e w9 ⟨rfl, hb9⟩
    have HB9 := hide (HS8.out.below hb9).below_
    clear hb9 HS8 C7 b1 b2 b3 b5
    cases b with
    | true =>
      go_wp2_with fail
      go_ret
      exact ⟨rfl, HB9.out⟩
    | false =>
      go_wp2_with fail
      go_ret
      exact ⟨rfl, HB9.out⟩
  · have C1 := hide (fun w' hb => C1.out w' hb hne)
    have y1 : ((nC : Int) != (nO : Int)) = true := by rw [bne_iff_ne]; omega
    have y2 : (nC != nO) = true := by rw [bne_iff_ne]; omega
    clear hne C7 C1'
    go_enter Try.func10, Try.ntmps10
    go_wp2_with fail
    refine (C1.out _ HS0.out.below_).mono ?_
    rintro e w1 ⟨rfl, hb1⟩
    have hS1 := HS0.out.below hb1
    have C2 := hide (C2.out w1 hS1.below_)
    obtain ⟨a1, a2, a3, a4⟩ := hS1.rules 0 (g := w.heap.size) (t := 25) rfl
    have HS1 := hide hS1
    clear hb1 hS1 HS0 C1 a4
    go_wp2_with fail
    refine C2.out.mono ?_
    rintro e w2 ⟨A2, c2, rfl, hP2⟩
    have hS2 := sepNewR HS1.out hP2
    have C3 := hide (C3.out w2 hS2.below_)
    obtain ⟨b1, b2, b3, b4⟩ := hS2.rules 0 (g := w.heap.size) (t := 25) rfl
    have HS2 := hide hS2
    clear hP2 hS2 HS1 C2 a1 a2 a3 b4
    go_wp2_with fail
    refine C3.out.mono ?_
    rintro e w3 ⟨A3, c3, L3, rfl, hl3, hP3⟩
    have hS3 := sepNewR HS2.out hP3
    have HL3 := hide hl3
    have C4 := hide (C4.out w3 hS3.below_)
    obtain ⟨a1, a2, a3, a4⟩ := hS3.rules 0 (g := w.heap.size) (t := 25) rfl
    have HS3 := hide hS3
    clear hP3 hS3 HS2 C3 b1 b2 b3 a4 hl3
    go_wp2_with fail
    refine C4.out.mono ?_
    rintro e w4 ⟨rfl, hb4⟩
    have hS4 := HS3.out.below hb4
    have C5 := hide (C5.out w4 hS4.below_)
    obtain ⟨b1, b2, b3, b4⟩ := hS4.rules 0 (g := w.heap.size) (t := 25) rfl
    have HS4 := hide hS4
    clear hb4 hS4 HS3 C4 a1 a2 a3 b4
    go_wp2_with fail
    refine C5.out.mono ?_
    rintro e w5 ⟨A5, c5, rfl, hP5⟩
    have hS5 := sepNewR HS4.out hP5
    have C8 := hide (ints_same w5 _ _ A2 A5 nO c2 c5 L1 (by omega) (hS5.rd_ 1 rfl) (hS5.rd_ 3 rfl))
    have HS5 := hide hS5
    clear hP5 hS5 HS4 C5 b1 b2 b3
    go_wp2_with fail
    refine C8.out.mono ?_
    rintro e w6 ⟨rfl, hb6⟩
    have hS6 := HS5.out.below hb6
    have C6 := hide (C6.out w6 hS6.below_)
    obtain ⟨b1, b2, b3, b4⟩ := hS6.rules 0 (g := w.heap.size) (t := 25) rfl
    have HS6 := hide hS6
    clear hb6 hS6 HS5 C8 b4
    go_wp2_with fail
    refine C6.out.mono ?_
    rintro e w7 ⟨A7, c7, p, rfl, hp, hP7⟩
    obtain rfl := HL3.out p hp
    have hS7 := sepNewR HS6.out hP7
    have C9 := hide (ints_same w7 _ _ A3 A7 nO c3 c7 _ (by omega) (hS7.rd_ 2 rfl) (hS7.rd_ 4 rfl))
    have HS7 := hide hS7
    clear hP7 hS7 HS6 C6 b1 b2 b3 HL3 hp
    go_wp2_with fail
    refine C9.out.mono ?_
    rintro e w8 ⟨rfl, hb8⟩
    have hS8 := HS7.out.below hb8
    obtain ⟨b1, b2, b3, b4⟩ := hS8.rules 0 (g := w.heap.size) (t := 25) rfl
    have b5 := b1 0
    have HB8 := hide hS8.below_
    clear hb8 hS8 HS7 C9 b4
    go_wp2_with fail
    go_ret
    exact ⟨rfl, HB8.out⟩
theorem dualTells_walk (w : World) (AO AR AC : Option Addr) (nO cO nR cR nC cC : Nat) (obs : List Ob) (roots : List Val) (cs : List Int) (hO : ObsRd w (fun _ => True) AO nO obs) (hR : Rd w (fun _ => True) 2 AR nR (vals roots)) (hC : Rd w (fun _ => True) 1 AC nC (ints cs)) :
    Calls Try.prog 10 #[.agg #[.slice AO nO cO, .slice AR nR cR], .slice AC nC cC] w fun e w' => e = .returned (.bool true) ∧ Below w.heap.size w w' := by
  by_cases hz : gcheck nO nR obs roots = 0
  · exact dualTells_ok w AO AR AC nO cO nR cR nC cC obs roots cs hO hR hC hz
  · exact dualTells_no w AO AR AC nO cO nR cR nC cC obs roots hO hR hz
end Go.Proofs.Ytaajkldhnjoicaa
