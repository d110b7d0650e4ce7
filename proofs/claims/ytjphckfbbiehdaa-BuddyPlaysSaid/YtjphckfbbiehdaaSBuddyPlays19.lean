/- The reference's choice of a piece. -/
import Derived.Test.YtjphckfbbiehdaaSBuddyPlays18
import Derived.Test.YtjphckfbbiehdaaSBuddyPlays8
set_option linter.unusedSimpArgs false
set_option linter.unusedVariables false
namespace Go.Proofs.Ytjphckfbbiehdaa
open Go.RowKit
theorem pow_le8' {k : Nat} (hk : k ≤ 8) : 2 ^ k ≤ 256 := Nat.pow_le_pow_right (n := 2) (by omega) hk
set_option maxRecDepth 100000 in
set_option maxHeartbeats 16000000 in
theorem fypiece_any {B : Nat} {t : FyT} {w : World} (hP : (fyI B t).P w) {L : Nat} (hlen : t.tk.length = 2 ^ L) (hL : L ≤ 7) {n : Nat} (h0 : 0 < n) (hn : n ≤ 2 ^ L) :
    Calls Try.prog 52 #[.pointer (some ⟨B, 0, none⟩), .int .i64 (n : Int)] w fun e w' => e = .returned (.tuple #[.int .i64 (bestI (pcs t.tk L 0) (pickK (pcs t.tk L 0) n 2 t.last (pcs t.tk L 0).length)).1, .int .i64 ((2 ^ needN n : Nat) : Int)]) ∧ Below w.heap.size w w' := by
  obtain ⟨gb, hgb⟩ : ∃ g, w.heap.size = g := ⟨_, rfl⟩
  have hp8 := pow_le8' (show L ≤ 8 by omega)
  have HPB := hide (fun (X : World) (hb : Below w.heap.size w X) => (show Sep _ w X ([] ++ fyR B t) from ((Sep.start hP).below hb).flat))
  have hS0 := (Sep.nil No w).blkAt 231 #[.int .i64 (-1), .int .i64 0] hgb
  have CB := fypieces_any (by rw [hlen]; omega) L 0 _ ((HPB.out _ hS0.below_).fold.get 0 rfl) (by rw [hlen]; omega)
  rw [Nat.zero_mul] at CB
  replace CB : Calls Try.prog 57 #[.pointer (some ⟨B, 0, none⟩), .int .i64 0, .int .i64 ((2 ^ L : Nat) : Int)] (w.alloc (.cells #[.int .i64 (-1), .int .i64 0] 231)) _ := CB
  have HFE := hide (show ∀ b ∈ pcs t.tk L 0, b.1 + b.2 ≤ 300 from fun b hb => by
    have h1 := ((pcs_sorted (tk := t.tk) L 0).2 b hb).2.1
    rw [Nat.zero_add, Nat.one_mul] at h1
    omega)
  have hm : (pcs t.tk L 0).length ≤ 300 := Nat.le_trans pcs_lenq (by omega)
  obtain ⟨F, hF⟩ : ∃ F, pcs t.tk L 0 = F := ⟨_, rfl⟩
  rw [hF] at CB HFE hm ⊢
  obtain ⟨m, hmm⟩ : ∃ m, F.length = m := ⟨_, rfl⟩
  have HM := hide hmm
  rw [hmm] at hm CB ⊢
  have HS0 := hide hS0
  obtain ⟨last, hlast⟩ : ∃ x, t.last = x := ⟨_, rfl⟩
  rw [hlast]
  obtain ⟨y0, y1, y2, y3, y4, y5⟩ := fy_cells (HPB.out w (Below.refl _ w))
  rw [hlen] at y0
  have HCB := hide CB
  have HNL := hide hn
  obtain ⟨PL, hPL⟩ : ∃ x, 2 ^ L = x := ⟨_, rfl⟩
  rw [hPL] at y0 HCB hn hp8
  have HPL := hide hPL
  clear hP hS0 hF hmm hlast CB y1 y2 y3 hPL hlen
  go_enter Try.func52, Try.ntmps52
  go_wp2_with fail
  go_loopw [6] (fun s6 wr => ∃ k pk : Nat, k ≤ L ∧ s6 = .int .i64 (pk : Int) ∧ Hid (2 ^ k = pk ∧ ∀ j, j < k → 2 ^ j < n) ∧ wr = w) (fun s6 _ => 300 - (intOf s6).toNat)
  case atStart => exact ⟨0, 1, by omega, rfl, hide ⟨rfl, fun j hj => by omega⟩, rfl⟩
  case round =>
    obtain ⟨k, pk, hk, rfl, HK, rfl⟩ := hrel
    have hpk8 : pk ≤ 256 := by rw [← HK.out.1]; exact pow_le8' (by omega)
    have hpk0 : 0 < pk := by rw [← HK.out.1]; exact Nat.two_pow_pos k
    by_cases hlt : pk < n
    · have hkL : k < L := by
        rcases Nat.lt_or_ge k L with h1 | h1
        · exact h1
        · have h2 := Nat.pow_le_pow_right (n := 2) (by omega) h1
          rw [HK.out.1, HPL.out] at h2
          omega
      have t1 : decide ((pk : Int) < (n : Int)) = true := by simp; omega
      have t1' : decide (pk < n) = true := by simp [hlt]
      have v1 : IntKind.i64.wrap ((pk : Int) + (pk : Int)) = ((pk + pk : Nat) : Int) := by rw [wrapF64 _ (by omega) (by omega)]; omega
      have HK2 := hide (show 2 ^ (k + 1) = pk + pk ∧ ∀ j, j < k + 1 → 2 ^ j < n from ⟨by rw [Nat.pow_succ, HK.out.1]; omega, fun j hj => by
        rcases Nat.lt_or_ge j k with h1 | h1
        · exact HK.out.2 j h1
        · obtain rfl : j = k := by omega
          rw [HK.out.1]; exact hlt⟩)
      clear HK
      go_wp2_with fail
      exact ⟨⟨k + 1, pk + pk, by omega, by first | rfl | go_num, HK2, by first | rfl | trivial⟩, by simp [intOf]; omega⟩
    · have t1 : decide ((pk : Int) < (n : Int)) = false := by simp; omega
      have t1' : decide (pk < n) = false := by simp; omega
      have hnd : 2 ^ needN n = pk := by
        have h1 : NeedOk n k := ⟨by rw [HK.out.1]; omega, HK.out.2⟩
        rw [(needN_ok n).uniq h1, HK.out.1]
      have HND := hide hnd
      clear HK hlt hnd
      have y0' := (World.cell?_alloc_lt wr (.cells #[.int .i64 (-1), .int .i64 0] 231) ⟨B, 0, none⟩ y5).trans y0
      obtain ⟨V0, rfl⟩ : ∃ V0, V0 = wr := ⟨_, rfl⟩
      go_wp2_with fail
      refine HCB.out.mono ?_
      rintro e w1 ⟨A, m2, c, rfl, hm2, hP1⟩
      subst hm2
      have HS1 := hide (row_new HS0.out hP1)
      clear hP1 HS0 HCB y0 y0'
      go_wp2_with fail
      go_loopw [25] (fun i wr => ∃ (k : Nat), k ≤ m2 ∧ i = .int .i64 (k : Int) ∧ Sep No V0 wr [rowI 231 2 A m2 c (bkV F), blkI gb 231 #[.int .i64 (bestI F (pickK F n 2 last k)).1, .int .i64 (bestI F (pickK F n 2 last k)).2]]) (fun i _ => m2 - (intOf i).toNat)
      case atStart => exact ⟨0, by omega, rfl, HS1.out⟩
      case round =>
        clear HS1
        obtain ⟨k, hk, rfl, hS⟩ := hrel
        by_cases hlt : k < m2
        · obtain ⟨g, hA, hg, hkl, e1, e2, e3, e4⟩ := bk_at (hS.get 0 rfl) (k := k) hlt
          subst hA
          have hnx : pickK F n 2 last (k + 1) = if fitB F n 2 last (pickK F n 2 last k) k = true then some k else pickK F n 2 last k := rfl
          have hgd : F.getD k (0, 0) = F[k] := by rw [List.getD_eq_getElem?_getD, List.getElem?_eq_getElem hkl]; rfl
          obtain ⟨⟨ba, bl⟩, hbb⟩ : ∃ b, F[k] = b := ⟨_, rfl⟩
          rw [hbb] at e1 e2 hgd
          dsimp only at e1 e2
          have HGD := hide hgd
          obtain ⟨gd, hgdd⟩ : ∃ x, wr.heap.size = x := ⟨_, rfl⟩
          have hgb2 : gb < gd := by rw [← hgdd]; exact hS.hi 1 rfl gb rfl
          obtain ⟨o, ho⟩ : ∃ o, pickK F n 2 last k = o := ⟨_, rfl⟩
          rw [ho] at hnx hS
          clear ho hbb
          have HBEST := hide (show bestI F (some k) = ((ba : Int), (bl : Int)) from by rw [bestI_some, HGD.out])
          by_cases hbn : n ≤ bl
          · have t1 : decide ((n : Int) ≤ (bl : Int)) = true := by simp; omega
            have t2 : decide (n ≤ bl) = true := by simp [hbn]
            cases o with
            | none =>
              rw [show fitB F n 2 last none k = true from by unfold fitB; rw [hgd]; dsimp only; rw [t2]; rfl, if_pos rfl] at hnx
              have HNX := hide hnx
              have hS2 := hS.blkAt 231 #[.int .i64 (ba : Int), .int .i64 (bl : Int)] hgdd
              obtain ⟨b1, b2, b3, -⟩ := hS2.rules 1 (g := gb) (t := 231) rfl
              have b5 := (b1 0).trans (show _ = some (.int .i64 (-1)) from rfl)
              have b6 := (b1 1).trans (show _ = some (.int .i64 0) from rfl)
              obtain ⟨d1, d2, d3, -⟩ := hS2.rules 2 (g := gd) (t := 231) rfl
              have d5 := (d1 0).trans (show _ = some (.int .i64 (ba : Int)) from rfl)
              have d6 := (d1 1).trans (show _ = some (.int .i64 (bl : Int)) from rfl)
              have n1 : gb ≠ gd := by omega
              have n2 : gd ≠ gb := by omega
              obtain ⟨W2, hW2⟩ : ∃ W, wr.alloc (.cells #[.int .i64 (ba : Int), .int .i64 (bl : Int)] 231) = W := ⟨_, rfl⟩
              rw [hW2] at b2 b3 b5 b6 d2 d3 d5 d6 hS2
              have HW2 := hide hW2
              have HS2 := hide hS2
              clear hnx hS hS2 b1 d1 hW2 hgd
              go_upto_region 8 with fail
              rw [HW2.out]
              go_wp2_with fail
              have hF2 := (((HS2.out.set_ 1 (g := gb) (t := 231) rfl 0 (.int .i64 (ba : Int))).set_ 1 (g := gb) (t := 231) rfl 1 (.int .i64 (bl : Int))).sub (l := [_, _]) (List.sublist_append_left [_, _] [_]))
              go_roundw
              case rel => exact ⟨k + 1, by omega, by go_num, by rw [HNX.out, HBEST.out]; exact hF2⟩
              case measure => simp [intOf]; omega
            | some j =>
              rw [show fitB F n 2 last (some j) k = betterB 2 last (ba, bl) (F.getD j (0, 0)) from by unfold fitB; rw [hgd]; dsimp only; rw [t2]; rfl] at hnx
              obtain ⟨⟨ja, jl⟩, hjj⟩ : ∃ b, F.getD j (0, 0) = b := ⟨_, rfl⟩
              have hbj : bestI F (some j) = ((ja : Int), (jl : Int)) := by rw [bestI_some, hjj]
              rw [hbj] at hS
              rw [hjj] at hnx
              dsimp only at hS
              have HBJ := hide hbj
              have t4 : decide ((ja : Int) < 0) = false := by simp
              have hS2 := hS.blkAt 231 #[.int .i64 (ba : Int), .int .i64 (bl : Int)] hgdd
              obtain ⟨b1, b2, b3, -⟩ := hS2.rules 1 (g := gb) (t := 231) rfl
              have b5 := (b1 0).trans (show _ = some (.int .i64 (ja : Int)) from rfl)
              have b6 := (b1 1).trans (show _ = some (.int .i64 (jl : Int)) from rfl)
              obtain ⟨d1, d2, d3, -⟩ := hS2.rules 2 (g := gd) (t := 231) rfl
              have d5 := (d1 0).trans (show _ = some (.int .i64 (ba : Int)) from rfl)
              have d6 := (d1 1).trans (show _ = some (.int .i64 (bl : Int)) from rfl)
              have n1 : gb ≠ gd := by omega
              have n2 : gd ≠ gb := by omega
              obtain ⟨W2, hW2⟩ : ∃ W, wr.alloc (.cells #[.int .i64 (ba : Int), .int .i64 (bl : Int)] 231) = W := ⟨_, rfl⟩
              rw [hW2] at b2 b3 b5 b6 d2 d3 d5 d6 hS2
              have HW2 := hide hW2
              have HS2 := hide hS2
              clear hS hS2 b1 d1 hW2 hbj hjj hgd
              by_cases hc : bl < jl
              · have t6 : decide ((bl : Int) < (jl : Int)) = true := by simp; omega
                have t7 : decide (bl < jl) = true := by simp [hc]
                have HNX := hide (show pickK F n 2 last (k + 1) = some k from by
                  rw [hnx, show betterB 2 last (ba, bl) (ja, jl) = decide (bl < jl) from rfl, t7]; rfl)
                clear hnx
                go_upto_region 8 with fail
                rw [HW2.out]
                go_wp2_with fail
                have hF2 := (((HS2.out.set_ 1 (g := gb) (t := 231) rfl 0 (.int .i64 (ba : Int))).set_ 1 (g := gb) (t := 231) rfl 1 (.int .i64 (bl : Int))).sub (l := [_, _]) (List.sublist_append_left [_, _] [_]))
                go_roundw
                case rel => exact ⟨k + 1, by omega, by go_num, by rw [HNX.out, HBEST.out]; exact hF2⟩
                case measure => simp [intOf]; omega
              · have t6 : decide ((bl : Int) < (jl : Int)) = false := by simp; omega
                have t7 : decide (bl < jl) = false := by simp [hc]
                have HNX := hide (show pickK F n 2 last (k + 1) = some j from by
                  rw [hnx, show betterB 2 last (ba, bl) (ja, jl) = decide (bl < jl) from rfl, t7]; rfl)
                clear hnx
                go_upto_region 8 with fail
                rw [HW2.out]
                go_wp2_with fail
                have hF2 := (HS2.out.sub (l := [_, _]) (List.sublist_append_left [_, _] [_]))
                go_roundw
                case rel => exact ⟨k + 1, by omega, by go_num, by rw [HNX.out, HBJ.out]; exact hF2⟩
                case measure => simp [intOf]; omega
          · have t1 : decide ((n : Int) ≤ (bl : Int)) = false := by simp; omega
            have t2 : decide (n ≤ bl) = false := by simp [hbn]
            have hno : fitB F n 2 last o k = false := by
              unfold fitB
              rw [hgd]
              dsimp only
              rw [t2]; rfl
            rw [hno] at hnx
            have HNX := hide (show pickK F n 2 last (k + 1) = o from hnx)
            have hS2 := hS.blkAt 231 #[.int .i64 (ba : Int), .int .i64 (bl : Int)] hgdd
            obtain ⟨b1, b2, b3, -⟩ := hS2.rules 1 (g := gb) (t := 231) rfl
            have b5 := (b1 0).trans (show _ = some (.int .i64 (bestI F o).1) from rfl)
            have b6 := (b1 1).trans (show _ = some (.int .i64 (bestI F o).2) from rfl)
            obtain ⟨d1, d2, d3, -⟩ := hS2.rules 2 (g := gd) (t := 231) rfl
            have d5 := (d1 0).trans (show _ = some (.int .i64 (ba : Int)) from rfl)
            have d6 := (d1 1).trans (show _ = some (.int .i64 (bl : Int)) from rfl)
            have n1 : gb ≠ gd := by omega
            have n2 : gd ≠ gb := by omega
            obtain ⟨W2, hW2⟩ : ∃ W, wr.alloc (.cells #[.int .i64 (ba : Int), .int .i64 (bl : Int)] 231) = W := ⟨_, rfl⟩
            rw [hW2] at b2 b3 b5 b6 d2 d3 d5 d6 hS2
            have HW2 := hide hW2
            have HS2 := hide hS2
            clear hnx hno hgd hS hS2 b1 d1 hW2
            go_upto_region 8 with fail
            rw [HW2.out]
            go_wp2_with fail
            have hF2 := (HS2.out.sub (l := [_, _]) (List.sublist_append_left [_, _] [_]))
            go_roundw
            case rel => exact ⟨k + 1, by omega, by go_num, by rw [HNX.out]; exact hF2⟩
            case measure => simp [intOf]; omega
        · obtain rfl : k = m2 := by omega
          obtain ⟨b1, b2, b3, -⟩ := hS.rules 1 (g := gb) (t := 231) rfl
          have b5 := (b1 0).trans (show _ = some (.int .i64 (bestI F (pickK F n 2 last k)).1) from rfl)
          have HB := hide hS.below_
          clear hS b1
          go_wp2_with fail
          refine bodyPost_ret (v := .tuple #[.int .i64 (bestI F (pickK F n 2 last k)).1, .int .i64 (pk : Int)]) (by simp [results, Try.results52, go_sem]) rfl ⟨by rw [HND.out], HB.out⟩
end Go.Proofs.Ytjphckfbbiehdaa
