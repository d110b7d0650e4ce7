/- The reference: a script of pieces on its yard (printed by bpc.py out of XFyP). -/
import Derived.Test.YtjphckfbbiehdaaSBuddyPlays19
import Derived.Test.YtjphckfbbiehdaaSBuddyPlays16
set_option linter.unusedSimpArgs false
set_option linter.unusedVariables false
namespace Go.Proofs.Ytjphckfbbiehdaa
open Go.RowKit
set_option maxRecDepth 1000000 in
set_option maxHeartbeats 32000000 in
theorem refFreedB_any (w : World) (L : Nat) (hL : L ≤ 7) (size : Nat) (hse : size = 2 ^ L) (Aq : Option Addr) (nd cd : Nat) (qs : List (Int × Int)) (hQ : Rd w (fun _ => True) 2 Aq nd (askV qs)) (hnd : nd ≤ 100)
    (hOK : ∀ k, k ≤ qs.length → FyOk size (runS (fbStep L) (qs.take k) (fy0 size)).2) :
    Calls Try.prog 20 #[.int .i64 (size : Int), .int .i64 0, .bool true, .slice Aq nd cd] w fun e w' => ∃ A1 A2 A3 c1 c2 n3 c3, e = .returned (freedV A1 A2 A3 nd n3 c1 c2 c3) ∧ Below w.heap.size w w' ∧ Rd w' (fun g => w.heap.size ≤ g) 1 A1 nd (ints ((runS (fbStep L) qs (fy0 size)).1.map fun e => e.1)) ∧ Rd w' (fun g => w.heap.size ≤ g) 1 A2 nd (ints ((runS (fbStep L) qs (fy0 size)).1.map fun e => e.2)) ∧ n3 = (pcs (runS (fbStep L) qs (fy0 size)).2.tk L 0).length ∧ Rd w' (fun g => w.heap.size ≤ g) 2 A3 n3 (bkV (pcs (runS (fbStep L) qs (fy0 size)).2.tk L 0)) := by
  have hsz : size ≤ 300 := by rw [hse]; exact Nat.le_trans (pow_le8' (show L ≤ 8 by omega)) (by omega)
  have HSE := hide hse
  clear hse
  unfold freedV
  have HDL := hide (show qs.length = nd by have := hQ.1; rw [askV_length] at this; omega)
  have HOK := hide hOK
  obtain ⟨g, hg⟩ : ∃ g, w.heap.size = g := ⟨_, rfl⟩
  have hS0 := (Sep.nil No w).blkAt 49 #[.slice none 0 0, .slice none 0 0, .slice none 0 0] hg
  have HS0 := hide hS0
  have HQ := hide hQ
  clear hOK hS0 hQ
  go_enter Try.func20, Try.ntmps20
  go_wp2_with (first
    | (at_make
       refine wpList_make rfl (.tmp 17) (.tmp 17) 63 rfl HS0.out Try.underlying63 fbInfo (by omega) .i64 .i64 size rfl rfl (by omega) ?_
       intro wM hSM hbM
       rw [fbMade, World.size_alloc, hg] at hSM
       obtain ⟨By, hBy⟩ : ∃ x, wM.heap.size = x := ⟨_, rfl⟩
       (have hSY := fy_start (hSM.blkAt 135 #[.slice (some ⟨g + 1, 0, none⟩) size size, .slice none 0 0, .slice none 0 0, .int .i64 0] hBy))
       (have hSZ := ((hSY.nilRow0 3 1).nilRow0 30 1).blkAtF 49 #[.slice none 0 0, .slice none 0 0, .slice none 0 0] (g := By + 1) (by simp [hBy]))
       obtain ⟨gO, hgO⟩ : ∃ x, By + 1 = x := ⟨_, rfl⟩
       (rw [hgO] at hSZ)
       (have HSM := hide hSZ)
       clear hSM hbM hSY hSZ))

  go_loopw [24] (fun q wr => ∃ (k : Nat) (A1 : Option Addr) (c1 : Nat) (A2 : Option Addr) (c2 : Nat) (t : FyT), k ≤ nd ∧ q = .int .i64 k ∧ Hid (t.y = (runS (fbStep L) (qs.take k) (fy0 size)).2) ∧ Sep No w wr ([blkI gO 49 #[.slice A1 k c1, .slice A2 k c2, .slice none 0 0], rowI 30 1 A1 k c1 (ints ((runS (fbStep L) (qs.take k) (fy0 size)).1.map fun e => e.1)), rowI 3 1 A2 k c2 (ints ((runS (fbStep L) (qs.take k) (fy0 size)).1.map fun e => e.2)), blkI g 49 #[.slice none 0 0, .slice none 0 0, .slice none 0 0]] ++ fyR By t)) (fun q _ => nd - (intOf q).toNat)
  case atStart => exact ⟨0, none, 0, none, 0, ⟨some ⟨g + 1, 0, none⟩, size, List.replicate size false, none, 0, none, 0, [], 0⟩, by omega, rfl, hide rfl, HSM.out⟩
  case round =>
    clear HSM
    obtain ⟨k, A1, c1, A2, c2, t, hk, rfl, HI, hS⟩ := hrel
    have okk := HOK.out k (by have := HDL.out; omega)
    rw [← HI.out] at okk
    have HO := hide okk
    have htl : t.tk.length = size := okk.len
    by_cases hlt : k < nd
    · have hkl : k < qs.length := by rw [HDL.out]; exact hlt
      obtain ⟨v0, v1⟩ := askV_at qs k hkl
      obtain ⟨ad, hA, _, had, hc, hd⟩ := (HQ.out.below hS.below_).atN hlt
      have e0 := hc _ v0
      have e1 := hd 0 _ v1
      have hrs := runS_at (fbStep L) qs (fy0 size) k hkl
      rw [← HI.out] at hrs
      obtain ⟨⟨qk, qn⟩, hq⟩ : ∃ q, qs[k] = q := ⟨_, rfl⟩
      rw [hq] at e0 e1 hrs
      dsimp only at e0 e1
      have HRS := hide hrs
      obtain ⟨gd, hgd⟩ : ∃ x, wr.heap.size = x := ⟨_, rfl⟩
      have hS2 := hS.blkAtF 127 #[.int .i64 qk, .int .i64 qn] hgd
      obtain ⟨W2, hW2⟩ : ∃ W, wr.alloc (.cells #[.int .i64 qk, .int .i64 qn] 127) = W := ⟨_, rfl⟩
      rw [hW2] at hS2
      have HW2 := hide hW2
      have HS2 := hide (show Sep No w W2 ([blkI gd 127 #[.int .i64 qk, .int .i64 qn], blkI gO 49 #[.slice A1 k c1, .slice A2 k c2, .slice none 0 0], rowI 30 1 A1 k c1 (ints ((runS (fbStep L) (qs.take k) (fy0 size)).1.map fun e => e.1)), rowI 3 1 A2 k c2 (ints ((runS (fbStep L) (qs.take k) (fy0 size)).1.map fun e => e.2)), blkI g 49 #[.slice none 0 0, .slice none 0 0, .slice none 0 0]] ++ fyR By t) from hS2)
      subst hA
      clear hc hd v0 v1 hrs hq hS2 hS okk HI hkl hW2
      go_upto_region 6 with fail
      rw [HW2.out]
      obtain ⟨z1, z2, z3, -⟩ := HS2.out.rules 0 (g := gd) (t := 127) rfl
      have z5 := (z1 0).trans (show _ = some (.int .i64 qk) from rfl)
      have z6 := (z1 1).trans (show _ = some (.int .i64 qn) from rfl)
      clear z1 HW2 e0 e1 had hgd
      go_upto_region 8 with fail
      by_cases hk1 : qk = 1
      · subst hk1
        by_cases hb : qn < 1 ∨ (size : Int) < qn
        · have HST := hide (show fbStep L (1, qn) t.y = ((3, 0), t.y) from by
            unfold fbStep
            rw [if_pos rfl, if_pos (by rw [← HSE.out]; exact hb)])
          have hrs := HRS.out
          rw [show fbStep L (1, qn) t.y = ((3, 0), t.y) from HST.out] at hrs
          have HRS2 := hide hrs
          clear hrs HRS HST
          by_cases hb1 : qn < 1
          · have t1 : decide (qn < 1) = true := by simp [hb1]
            clear hb hb1
            go_upto_region 25 with fail
            have hS3 := HS2.out
            try clear z2
            try clear z3
            try clear z5
            try clear z6
            try clear HS2
            clear HO htl
            obtain ⟨u1, u2, u3, -⟩ := hS3.rules 1 (g := gO) (t := 49) rfl
            have u5 := (u1 0).trans (show _ = some (.slice A1 k c1) from rfl)
            have u6 := (u1 1).trans (show _ = some (.slice A2 k c2) from rfl)
            have HS3 := hide (show Sep No w _ ([blkI gd 127 #[.int .i64 1, .int .i64 qn], blkI gO 49 #[.slice A1 k c1, .slice A2 k c2, .slice none 0 0], rowI 30 1 A1 k c1 (ints ((runS (fbStep L) (qs.take k) (fy0 size)).1.map fun e => e.1)), rowI 3 1 A2 k c2 (ints ((runS (fbStep L) (qs.take k) (fy0 size)).1.map fun e => e.2)), blkI g 49 #[.slice none 0 0, .slice none 0 0, .slice none 0 0], blkI By 135 (fyC t), rowI 4 1 t.Ak t.tk.length t.ck (bools t.tk), rowI 3 1 t.Aa t.pl.length t.ca (ints (pl1 t.pl)), rowI 3 1 t.Al t.pl.length t.cl (ints (pl2 t.pl))]) from hS3)
            clear hS3 u1
            go_wp2_with (first
              | (at_builtin
                 refine wpList_app1 (cs := #[.int .i64 (3)]) rfl (.tmp 80) (.tmp 82) 46 rfl (F := No) (W := w) sErr (items := [_, _, _, _, _, _, _, _, _]) HS3.out 2 (n := k) rfl rfl rfl (by simp) rfl rfl (by omega) ?_
                 intro A6 c6 w6 hS6 hC6
                 obtain ⟨v1, v2, v3, -⟩ := hS6.rules 1 (g := gO) (t := 49) rfl
                 (have v5 := (v1 0).trans (show _ = some (.slice A1 k c1) from rfl))
                 (have v6 := (v1 1).trans (show _ = some (.slice A2 k c2) from rfl))
                 (have HS6 := hide (hS6.set_ 1 (g := gO) (t := 49) rfl 0 (.slice A6 (k + 1) c6)))
                 clear hS6 hC6 v1)
              | (at_builtin
                 refine wpList_app1 (cs := #[.int .i64 (0)]) rfl (.tmp 86) (.tmp 88) 35 rfl (F := No) (W := w) sInt (items := [_, _, _, _, _, _, _, _, _]) HS6.out 3 (n := k) rfl rfl rfl (by simp) rfl rfl (by omega) ?_
                 intro A7 c7 w7 hS7 hC7
                 obtain ⟨v1, v2, v3, -⟩ := hS7.rules 1 (g := gO) (t := 49) rfl
                 (have v6 := (v1 1).trans (show _ = some (.slice A2 k c2) from rfl))
                 (have HS7 := hide (((hS7.set_ 1 (g := gO) (t := 49) rfl 1 (.slice A7 (k + 1) c7))).sub (List.sublist_cons_self _ _)))
                 clear hS7 hC7 v1))
            go_roundw
            case rel => exact ⟨k + 1, A6, c6, A7, c7, t, by omega, by go_num, by rw [(show runS (fbStep L) (qs.take (k + 1)) (fy0 size) = ((runS (fbStep L) (qs.take k) (fy0 size)).1 ++ [(3, 0)], (t).y) from by rw [HRS2.out])]; exact hide rfl, by
              rw [(show runS (fbStep L) (qs.take (k + 1)) (fy0 size) = ((runS (fbStep L) (qs.take k) (fy0 size)).1 ++ [(3, 0)], (t).y) from by rw [HRS2.out])]
              dsimp only
              rw [map_snoc, map_snoc, ints_snoc, ints_snoc]
              exact HS7.out⟩
            case measure => simp [intOf]; omega
          · have t1 : decide (qn < 1) = false := by simp; omega
            have t2 : decide ((size : Int) < qn) = true := by simp; omega
            clear hb hb1
            go_upto_region 25 with fail
            have hS3 := HS2.out
            try clear z2
            try clear z3
            try clear z5
            try clear z6
            try clear HS2
            clear HO htl
            obtain ⟨u1, u2, u3, -⟩ := hS3.rules 1 (g := gO) (t := 49) rfl
            have u5 := (u1 0).trans (show _ = some (.slice A1 k c1) from rfl)
            have u6 := (u1 1).trans (show _ = some (.slice A2 k c2) from rfl)
            have HS3 := hide (show Sep No w _ ([blkI gd 127 #[.int .i64 1, .int .i64 qn], blkI gO 49 #[.slice A1 k c1, .slice A2 k c2, .slice none 0 0], rowI 30 1 A1 k c1 (ints ((runS (fbStep L) (qs.take k) (fy0 size)).1.map fun e => e.1)), rowI 3 1 A2 k c2 (ints ((runS (fbStep L) (qs.take k) (fy0 size)).1.map fun e => e.2)), blkI g 49 #[.slice none 0 0, .slice none 0 0, .slice none 0 0], blkI By 135 (fyC t), rowI 4 1 t.Ak t.tk.length t.ck (bools t.tk), rowI 3 1 t.Aa t.pl.length t.ca (ints (pl1 t.pl)), rowI 3 1 t.Al t.pl.length t.cl (ints (pl2 t.pl))]) from hS3)
            clear hS3 u1
            go_wp2_with (first
              | (at_builtin
                 refine wpList_app1 (cs := #[.int .i64 (3)]) rfl (.tmp 80) (.tmp 82) 46 rfl (F := No) (W := w) sErr (items := [_, _, _, _, _, _, _, _, _]) HS3.out 2 (n := k) rfl rfl rfl (by simp) rfl rfl (by omega) ?_
                 intro A6 c6 w6 hS6 hC6
                 obtain ⟨v1, v2, v3, -⟩ := hS6.rules 1 (g := gO) (t := 49) rfl
                 (have v5 := (v1 0).trans (show _ = some (.slice A1 k c1) from rfl))
                 (have v6 := (v1 1).trans (show _ = some (.slice A2 k c2) from rfl))
                 (have HS6 := hide (hS6.set_ 1 (g := gO) (t := 49) rfl 0 (.slice A6 (k + 1) c6)))
                 clear hS6 hC6 v1)
              | (at_builtin
                 refine wpList_app1 (cs := #[.int .i64 (0)]) rfl (.tmp 86) (.tmp 88) 35 rfl (F := No) (W := w) sInt (items := [_, _, _, _, _, _, _, _, _]) HS6.out 3 (n := k) rfl rfl rfl (by simp) rfl rfl (by omega) ?_
                 intro A7 c7 w7 hS7 hC7
                 obtain ⟨v1, v2, v3, -⟩ := hS7.rules 1 (g := gO) (t := 49) rfl
                 (have v6 := (v1 1).trans (show _ = some (.slice A2 k c2) from rfl))
                 (have HS7 := hide (((hS7.set_ 1 (g := gO) (t := 49) rfl 1 (.slice A7 (k + 1) c7))).sub (List.sublist_cons_self _ _)))
                 clear hS7 hC7 v1))
            go_roundw
            case rel => exact ⟨k + 1, A6, c6, A7, c7, t, by omega, by go_num, by rw [(show runS (fbStep L) (qs.take (k + 1)) (fy0 size) = ((runS (fbStep L) (qs.take k) (fy0 size)).1 ++ [(3, 0)], (t).y) from by rw [HRS2.out])]; exact hide rfl, by
              rw [(show runS (fbStep L) (qs.take (k + 1)) (fy0 size) = ((runS (fbStep L) (qs.take k) (fy0 size)).1 ++ [(3, 0)], (t).y) from by rw [HRS2.out])]
              dsimp only
              rw [map_snoc, map_snoc, ints_snoc, ints_snoc]
              exact HS7.out⟩
            case measure => simp [intOf]; omega
        · -- words that may be
          obtain ⟨n, rfl⟩ := int_nat (show 0 ≤ qn from by omega)
          have hn1 : 0 < n := by omega
          have hn2 : n ≤ size := by omega
          have t1 : decide ((n : Int) < 1) = false := by simp; omega
          have t1' : decide (n < 1) = false := by simp; omega
          have t2 : decide ((size : Int) < (n : Int)) = false := by simp; omega
          have t2' : decide (size < n) = false := by simp; omega
          have CH := hide (fypiece_any (fy_end HS2.out) (htl.trans HSE.out) hL hn1 (by rw [← HSE.out]; exact hn2))
          have hst : fbStep L (1, (n : Int)) t.y = match pickK (pcs t.tk L 0) n 2 t.last (pcs t.tk L 0).length with
              | none => ((6, 0), t.y)
              | some i => ((0, (((pcs t.tk L 0).getD i (0, 0)).1 : Int)), t.y.take ((pcs t.tk L 0).getD i (0, 0)) (2 ^ needN n)) := by
            unfold fbStep
            rw [if_pos rfl, if_neg (by rw [← HSE.out]; simp; omega), Int.toNat_natCast]
            rfl
          obtain ⟨N2, hN2⟩ : ∃ x, 2 ^ needN n = x := ⟨_, rfl⟩
          rw [hN2] at CH hst
          obtain ⟨o, ho⟩ : ∃ o, pickK (pcs t.tk L 0) n 2 t.last (pcs t.tk L 0).length = o := ⟨_, rfl⟩
          rw [ho] at CH hst
          cases o with
          | none =>
            have HST := hide hst
            clear hst ho hb hn1 hn2
            have hrs := HRS.out
            rw [show fbStep L (1, (n : Int)) t.y = ((6, 0), t.y) from HST.out] at hrs
            have HRS2 := hide hrs
            clear hrs HRS HST
            go_wp2_with fail
            refine CH.out.mono ?_
            rintro e w4 ⟨rfl, hb4⟩
            have HS4 := hide (HS2.out.below hb4)
            clear hb4 HS2 CH z2 z3 z5 z6
            go_upto_region 25 with fail
            have hS3 := HS4.out
            try clear z2
            try clear z3
            try clear z5
            try clear z6
            try clear HS2
            clear HO htl
            obtain ⟨u1, u2, u3, -⟩ := hS3.rules 1 (g := gO) (t := 49) rfl
            have u5 := (u1 0).trans (show _ = some (.slice A1 k c1) from rfl)
            have u6 := (u1 1).trans (show _ = some (.slice A2 k c2) from rfl)
            have HS3 := hide (show Sep No w _ ([blkI gd 127 #[.int .i64 1, .int .i64 (n : Int)], blkI gO 49 #[.slice A1 k c1, .slice A2 k c2, .slice none 0 0], rowI 30 1 A1 k c1 (ints ((runS (fbStep L) (qs.take k) (fy0 size)).1.map fun e => e.1)), rowI 3 1 A2 k c2 (ints ((runS (fbStep L) (qs.take k) (fy0 size)).1.map fun e => e.2)), blkI g 49 #[.slice none 0 0, .slice none 0 0, .slice none 0 0], blkI By 135 (fyC t), rowI 4 1 t.Ak t.tk.length t.ck (bools t.tk), rowI 3 1 t.Aa t.pl.length t.ca (ints (pl1 t.pl)), rowI 3 1 t.Al t.pl.length t.cl (ints (pl2 t.pl))]) from hS3)
            clear hS3 u1
            go_wp2_with (first
              | (at_builtin
                 refine wpList_app1 (cs := #[.int .i64 (6)]) rfl (.tmp 80) (.tmp 82) 46 rfl (F := No) (W := w) sErr (items := [_, _, _, _, _, _, _, _, _]) HS3.out 2 (n := k) rfl rfl rfl (by simp) rfl rfl (by omega) ?_
                 intro A6 c6 w6 hS6 hC6
                 obtain ⟨v1, v2, v3, -⟩ := hS6.rules 1 (g := gO) (t := 49) rfl
                 (have v5 := (v1 0).trans (show _ = some (.slice A1 k c1) from rfl))
                 (have v6 := (v1 1).trans (show _ = some (.slice A2 k c2) from rfl))
                 (have HS6 := hide (hS6.set_ 1 (g := gO) (t := 49) rfl 0 (.slice A6 (k + 1) c6)))
                 clear hS6 hC6 v1)
              | (at_builtin
                 refine wpList_app1 (cs := #[.int .i64 (0)]) rfl (.tmp 86) (.tmp 88) 35 rfl (F := No) (W := w) sInt (items := [_, _, _, _, _, _, _, _, _]) HS6.out 3 (n := k) rfl rfl rfl (by simp) rfl rfl (by omega) ?_
                 intro A7 c7 w7 hS7 hC7
                 obtain ⟨v1, v2, v3, -⟩ := hS7.rules 1 (g := gO) (t := 49) rfl
                 (have v6 := (v1 1).trans (show _ = some (.slice A2 k c2) from rfl))
                 (have HS7 := hide (((hS7.set_ 1 (g := gO) (t := 49) rfl 1 (.slice A7 (k + 1) c7))).sub (List.sublist_cons_self _ _)))
                 clear hS7 hC7 v1))
            go_roundw
            case rel => exact ⟨k + 1, A6, c6, A7, c7, t, by omega, by go_num, by rw [(show runS (fbStep L) (qs.take (k + 1)) (fy0 size) = ((runS (fbStep L) (qs.take k) (fy0 size)).1 ++ [(6, 0)], (t).y) from by rw [HRS2.out])]; exact hide rfl, by
              rw [(show runS (fbStep L) (qs.take (k + 1)) (fy0 size) = ((runS (fbStep L) (qs.take k) (fy0 size)).1 ++ [(6, 0)], (t).y) from by rw [HRS2.out])]
              dsimp only
              rw [map_snoc, map_snoc, ints_snoc, ints_snoc]
              exact HS7.out⟩
            case measure => simp [intOf]; omega
          | some i =>
            obtain ⟨hi, hbl⟩ := pickK_some ho
            obtain ⟨K, q, hpe, hmx2, hnk⟩ := picked_mx (htl.trans HSE.out) ho
            have hend := hmx2.end_le (htl.trans HSE.out)
            rw [← HSE.out] at hend
            have hN2b : N2 ≤ ((pcs t.tk L 0).getD i (0, 0)).2 := by
              rw [hpe, ← hN2]
              exact Nat.pow_le_pow_right (by omega) ((needN_ok n).min hnk)
            have hN20 : 0 < N2 := by rw [← hN2]; exact Nat.two_pow_pos _
            replace hend : ((pcs t.tk L 0).getD i (0, 0)).1 + ((pcs t.tk L 0).getD i (0, 0)).2 ≤ size := by rw [hpe]; exact hend
            clear hmx2 hnk hpe hN2
            rw [bestI_some] at CH
            replace hst : fbStep L (1, (n : Int)) t.y = ((0, (((pcs t.tk L 0).getD i (0, 0)).1 : Int)), t.y.take ((pcs t.tk L 0).getD i (0, 0)) N2) := hst
            obtain ⟨⟨ba, bl⟩, hbb⟩ : ∃ b, (pcs t.tk L 0).getD i (0, 0) = b := ⟨_, rfl⟩
            rw [hbb] at CH hst hbl hend hN2b
            dsimp only at CH hst hbl hend hN2b
            have HST := hide hst
            have t3 : decide ((0 : Int) ≤ (ba : Int)) = true := by simp
            clear hst ho hb hi hbb
            have hrs := HRS.out
            rw [show fbStep L (1, (n : Int)) t.y = ((0, (ba : Int)), t.y.take (ba, bl) N2) from HST.out] at hrs
            have HRS2 := hide hrs
            clear hrs HRS HST
            go_wp2_with fail
            refine CH.out.mono ?_
            rintro e w4 ⟨rfl, hb4⟩
            have hS4 := HS2.out.below hb4
            obtain ⟨z1, z2, z3, -⟩ := hS4.rules 0 (g := gd) (t := 127) rfl
            have z5 := (z1 0).trans (show _ = some (.int .i64 1) from rfl)
            have z6 := (z1 1).trans (show _ = some (.int .i64 (n : Int)) from rfl)
            have CT := hide (fytake_any (fy_gather hS4) (at_ := ba) (n := N2) (by omega) (by omega) HO.out.pl)
            clear hb4 hS4 HS2 CH z1
            go_wp2_with fail
            refine CT.out.mono ?_
            rintro e w5 ⟨⟨u, rfl⟩, t5, hy5, hS5⟩
            have HS5 := hide (fy_ungather hS5)
            have HY5 := hide hy5
            clear hS5 hy5 CT z2 z3 z5 z6
            go_upto_region 25 with fail
            have hS3 := HS5.out
            try clear z2
            try clear z3
            try clear z5
            try clear z6
            try clear HS2
            clear HO htl
            obtain ⟨u1, u2, u3, -⟩ := hS3.rules 1 (g := gO) (t := 49) rfl
            have u5 := (u1 0).trans (show _ = some (.slice A1 k c1) from rfl)
            have u6 := (u1 1).trans (show _ = some (.slice A2 k c2) from rfl)
            have HS3 := hide (show Sep No w _ ([blkI gd 127 #[.int .i64 1, .int .i64 (n : Int)], blkI gO 49 #[.slice A1 k c1, .slice A2 k c2, .slice none 0 0], rowI 30 1 A1 k c1 (ints ((runS (fbStep L) (qs.take k) (fy0 size)).1.map fun e => e.1)), rowI 3 1 A2 k c2 (ints ((runS (fbStep L) (qs.take k) (fy0 size)).1.map fun e => e.2)), blkI g 49 #[.slice none 0 0, .slice none 0 0, .slice none 0 0], blkI By 135 (fyC t5), rowI 4 1 t5.Ak t5.tk.length t5.ck (bools t5.tk), rowI 3 1 t5.Aa t5.pl.length t5.ca (ints (pl1 t5.pl)), rowI 3 1 t5.Al t5.pl.length t5.cl (ints (pl2 t5.pl))]) from hS3)
            clear hS3 u1
            go_wp2_with (first
              | (at_builtin
                 refine wpList_app1 (cs := #[.int .i64 (0)]) rfl (.tmp 80) (.tmp 82) 46 rfl (F := No) (W := w) sErr (items := [_, _, _, _, _, _, _, _, _]) HS3.out 2 (n := k) rfl rfl rfl (by simp) rfl rfl (by omega) ?_
                 intro A6 c6 w6 hS6 hC6
                 obtain ⟨v1, v2, v3, -⟩ := hS6.rules 1 (g := gO) (t := 49) rfl
                 (have v5 := (v1 0).trans (show _ = some (.slice A1 k c1) from rfl))
                 (have v6 := (v1 1).trans (show _ = some (.slice A2 k c2) from rfl))
                 (have HS6 := hide (hS6.set_ 1 (g := gO) (t := 49) rfl 0 (.slice A6 (k + 1) c6)))
                 clear hS6 hC6 v1)
              | (at_builtin
                 refine wpList_app1 (cs := #[.int .i64 ((ba : Int))]) rfl (.tmp 86) (.tmp 88) 35 rfl (F := No) (W := w) sInt (items := [_, _, _, _, _, _, _, _, _]) HS6.out 3 (n := k) rfl rfl rfl (by simp) rfl rfl (by omega) ?_
                 intro A7 c7 w7 hS7 hC7
                 obtain ⟨v1, v2, v3, -⟩ := hS7.rules 1 (g := gO) (t := 49) rfl
                 (have v6 := (v1 1).trans (show _ = some (.slice A2 k c2) from rfl))
                 (have HS7 := hide (((hS7.set_ 1 (g := gO) (t := 49) rfl 1 (.slice A7 (k + 1) c7))).sub (List.sublist_cons_self _ _)))
                 clear hS7 hC7 v1))
            go_roundw
            case rel => exact ⟨k + 1, A6, c6, A7, c7, t5, by omega, by go_num, by rw [(show runS (fbStep L) (qs.take (k + 1)) (fy0 size) = ((runS (fbStep L) (qs.take k) (fy0 size)).1 ++ [(0, (ba : Int))], (t5).y) from by (rw [HRS2.out, HY5.out]; rfl))]; exact hide rfl, by
              rw [(show runS (fbStep L) (qs.take (k + 1)) (fy0 size) = ((runS (fbStep L) (qs.take k) (fy0 size)).1 ++ [(0, (ba : Int))], (t5).y) from by (rw [HRS2.out, HY5.out]; rfl))]
              dsimp only
              rw [map_snoc, map_snoc, ints_snoc, ints_snoc]
              exact HS7.out⟩
            case measure => simp [intOf]; omega
      · have y1 : (qk == 1) = false := by simp [hk1]
        by_cases hk2 : qk = 2
        · subst hk2
          clear hk1
          by_cases h0 : 0 ≤ qn
          · obtain ⟨n, rfl⟩ := int_nat h0
            have CG := hide (fygive_any (fy_gather HS2.out) (at_ := n) (fun i hi => by
              have h1 := HO.out.fit (n : Int) i h0 hi
              rw [Int.toNat_natCast] at h1
              rw [htl]; exact h1) (by omega) HO.out.pl)
            have t3 : decide ((0 : Int) ≤ (n : Int)) = true := by simp
            obtain ⟨o, ho⟩ : ∃ o, t.y.find (n : Int) = o := ⟨_, rfl⟩
            have HST := hide (show fbStep L (2, (n : Int)) t.y = ((if o.isSome = true then 0 else 2, 0), t.y.giveO (n : Int)) from by
              unfold fbStep FyA.giveO
              rw [if_neg (by simp), if_pos rfl, if_pos (by omega), ho]
              cases o <;> rfl)
            rw [ho] at CG
            clear ho h0
            have hrs := HRS.out
            rw [show fbStep L (2, (n : Int)) t.y = ((if o.isSome = true then 0 else 2, 0), t.y.giveO (n : Int)) from HST.out] at hrs
            have HRS2 := hide hrs
            clear hrs HRS HST
            obtain ⟨b, hb9⟩ : ∃ b, o.isSome = b := ⟨_, rfl⟩
            rw [hb9] at HRS2 CG
            clear hb9
            cases b with
            | true =>
              go_wp2_with fail
              refine CG.out.mono ?_
              rintro e w5 ⟨rfl, t5, hy5, hS5⟩
              have HS5 := hide (fy_ungather hS5)
              have HY5 := hide hy5
              clear hS5 hy5 CG z2 z3 z5 z6 HS2
              go_upto_region 25 with fail
              have hS3 := HS5.out
              try clear z2
              try clear z3
              try clear z5
              try clear z6
              try clear HS2
              clear HO htl
              obtain ⟨u1, u2, u3, -⟩ := hS3.rules 1 (g := gO) (t := 49) rfl
              have u5 := (u1 0).trans (show _ = some (.slice A1 k c1) from rfl)
              have u6 := (u1 1).trans (show _ = some (.slice A2 k c2) from rfl)
              have HS3 := hide (show Sep No w _ ([blkI gd 127 #[.int .i64 2, .int .i64 (n : Int)], blkI gO 49 #[.slice A1 k c1, .slice A2 k c2, .slice none 0 0], rowI 30 1 A1 k c1 (ints ((runS (fbStep L) (qs.take k) (fy0 size)).1.map fun e => e.1)), rowI 3 1 A2 k c2 (ints ((runS (fbStep L) (qs.take k) (fy0 size)).1.map fun e => e.2)), blkI g 49 #[.slice none 0 0, .slice none 0 0, .slice none 0 0], blkI By 135 (fyC t5), rowI 4 1 t5.Ak t5.tk.length t5.ck (bools t5.tk), rowI 3 1 t5.Aa t5.pl.length t5.ca (ints (pl1 t5.pl)), rowI 3 1 t5.Al t5.pl.length t5.cl (ints (pl2 t5.pl))]) from hS3)
              clear hS3 u1
              go_wp2_with (first
                | (at_builtin
                   refine wpList_app1 (cs := #[.int .i64 (0)]) rfl (.tmp 80) (.tmp 82) 46 rfl (F := No) (W := w) sErr (items := [_, _, _, _, _, _, _, _, _]) HS3.out 2 (n := k) rfl rfl rfl (by simp) rfl rfl (by omega) ?_
                   intro A6 c6 w6 hS6 hC6
                   obtain ⟨v1, v2, v3, -⟩ := hS6.rules 1 (g := gO) (t := 49) rfl
                   (have v5 := (v1 0).trans (show _ = some (.slice A1 k c1) from rfl))
                   (have v6 := (v1 1).trans (show _ = some (.slice A2 k c2) from rfl))
                   (have HS6 := hide (hS6.set_ 1 (g := gO) (t := 49) rfl 0 (.slice A6 (k + 1) c6)))
                   clear hS6 hC6 v1)
                | (at_builtin
                   refine wpList_app1 (cs := #[.int .i64 (0)]) rfl (.tmp 86) (.tmp 88) 35 rfl (F := No) (W := w) sInt (items := [_, _, _, _, _, _, _, _, _]) HS6.out 3 (n := k) rfl rfl rfl (by simp) rfl rfl (by omega) ?_
                   intro A7 c7 w7 hS7 hC7
                   obtain ⟨v1, v2, v3, -⟩ := hS7.rules 1 (g := gO) (t := 49) rfl
                   (have v6 := (v1 1).trans (show _ = some (.slice A2 k c2) from rfl))
                   (have HS7 := hide (((hS7.set_ 1 (g := gO) (t := 49) rfl 1 (.slice A7 (k + 1) c7))).sub (List.sublist_cons_self _ _)))
                   clear hS7 hC7 v1))
              go_roundw
              case rel => exact ⟨k + 1, A6, c6, A7, c7, t5, by omega, by go_num, by rw [(show runS (fbStep L) (qs.take (k + 1)) (fy0 size) = ((runS (fbStep L) (qs.take k) (fy0 size)).1 ++ [(0, 0)], (t5).y) from by (rw [HRS2.out, HY5.out]; rfl))]; exact hide rfl, by
                rw [(show runS (fbStep L) (qs.take (k + 1)) (fy0 size) = ((runS (fbStep L) (qs.take k) (fy0 size)).1 ++ [(0, 0)], (t5).y) from by (rw [HRS2.out, HY5.out]; rfl))]
                dsimp only
                rw [map_snoc, map_snoc, ints_snoc, ints_snoc]
                exact HS7.out⟩
              case measure => simp [intOf]; omega
            | false =>
              go_wp2_with fail
              refine CG.out.mono ?_
              rintro e w5 ⟨rfl, t5, hy5, hS5⟩
              have HS5 := hide (fy_ungather hS5)
              have HY5 := hide hy5
              clear hS5 hy5 CG z2 z3 z5 z6 HS2
              go_upto_region 25 with fail
              have hS3 := HS5.out
              try clear z2
              try clear z3
              try clear z5
              try clear z6
              try clear HS2
              clear HO htl
              obtain ⟨u1, u2, u3, -⟩ := hS3.rules 1 (g := gO) (t := 49) rfl
              have u5 := (u1 0).trans (show _ = some (.slice A1 k c1) from rfl)
              have u6 := (u1 1).trans (show _ = some (.slice A2 k c2) from rfl)
              have HS3 := hide (show Sep No w _ ([blkI gd 127 #[.int .i64 2, .int .i64 (n : Int)], blkI gO 49 #[.slice A1 k c1, .slice A2 k c2, .slice none 0 0], rowI 30 1 A1 k c1 (ints ((runS (fbStep L) (qs.take k) (fy0 size)).1.map fun e => e.1)), rowI 3 1 A2 k c2 (ints ((runS (fbStep L) (qs.take k) (fy0 size)).1.map fun e => e.2)), blkI g 49 #[.slice none 0 0, .slice none 0 0, .slice none 0 0], blkI By 135 (fyC t5), rowI 4 1 t5.Ak t5.tk.length t5.ck (bools t5.tk), rowI 3 1 t5.Aa t5.pl.length t5.ca (ints (pl1 t5.pl)), rowI 3 1 t5.Al t5.pl.length t5.cl (ints (pl2 t5.pl))]) from hS3)
              clear hS3 u1
              go_wp2_with (first
                | (at_builtin
                   refine wpList_app1 (cs := #[.int .i64 (2)]) rfl (.tmp 80) (.tmp 82) 46 rfl (F := No) (W := w) sErr (items := [_, _, _, _, _, _, _, _, _]) HS3.out 2 (n := k) rfl rfl rfl (by simp) rfl rfl (by omega) ?_
                   intro A6 c6 w6 hS6 hC6
                   obtain ⟨v1, v2, v3, -⟩ := hS6.rules 1 (g := gO) (t := 49) rfl
                   (have v5 := (v1 0).trans (show _ = some (.slice A1 k c1) from rfl))
                   (have v6 := (v1 1).trans (show _ = some (.slice A2 k c2) from rfl))
                   (have HS6 := hide (hS6.set_ 1 (g := gO) (t := 49) rfl 0 (.slice A6 (k + 1) c6)))
                   clear hS6 hC6 v1)
                | (at_builtin
                   refine wpList_app1 (cs := #[.int .i64 (0)]) rfl (.tmp 86) (.tmp 88) 35 rfl (F := No) (W := w) sInt (items := [_, _, _, _, _, _, _, _, _]) HS6.out 3 (n := k) rfl rfl rfl (by simp) rfl rfl (by omega) ?_
                   intro A7 c7 w7 hS7 hC7
                   obtain ⟨v1, v2, v3, -⟩ := hS7.rules 1 (g := gO) (t := 49) rfl
                   (have v6 := (v1 1).trans (show _ = some (.slice A2 k c2) from rfl))
                   (have HS7 := hide (((hS7.set_ 1 (g := gO) (t := 49) rfl 1 (.slice A7 (k + 1) c7))).sub (List.sublist_cons_self _ _)))
                   clear hS7 hC7 v1))
              go_roundw
              case rel => exact ⟨k + 1, A6, c6, A7, c7, t5, by omega, by go_num, by rw [(show runS (fbStep L) (qs.take (k + 1)) (fy0 size) = ((runS (fbStep L) (qs.take k) (fy0 size)).1 ++ [(2, 0)], (t5).y) from by (rw [HRS2.out, HY5.out]; rfl))]; exact hide rfl, by
                rw [(show runS (fbStep L) (qs.take (k + 1)) (fy0 size) = ((runS (fbStep L) (qs.take k) (fy0 size)).1 ++ [(2, 0)], (t5).y) from by (rw [HRS2.out, HY5.out]; rfl))]
                dsimp only
                rw [map_snoc, map_snoc, ints_snoc, ints_snoc]
                exact HS7.out⟩
              case measure => simp [intOf]; omega
          · have t3 : decide ((0 : Int) ≤ qn) = false := by simp; omega
            have HST := hide (show fbStep L (2, qn) t.y = ((2, 0), t.y) from by
              unfold fbStep
              rw [if_neg (by simp), if_pos rfl, if_neg h0])
            clear h0
            have hrs := HRS.out
            rw [show fbStep L (2, qn) t.y = ((2, 0), t.y) from HST.out] at hrs
            have HRS2 := hide hrs
            clear hrs HRS HST
            go_upto_region 25 with fail
            have hS3 := HS2.out
            try clear z2
            try clear z3
            try clear z5
            try clear z6
            try clear HS2
            clear HO htl
            obtain ⟨u1, u2, u3, -⟩ := hS3.rules 1 (g := gO) (t := 49) rfl
            have u5 := (u1 0).trans (show _ = some (.slice A1 k c1) from rfl)
            have u6 := (u1 1).trans (show _ = some (.slice A2 k c2) from rfl)
            have HS3 := hide (show Sep No w _ ([blkI gd 127 #[.int .i64 2, .int .i64 qn], blkI gO 49 #[.slice A1 k c1, .slice A2 k c2, .slice none 0 0], rowI 30 1 A1 k c1 (ints ((runS (fbStep L) (qs.take k) (fy0 size)).1.map fun e => e.1)), rowI 3 1 A2 k c2 (ints ((runS (fbStep L) (qs.take k) (fy0 size)).1.map fun e => e.2)), blkI g 49 #[.slice none 0 0, .slice none 0 0, .slice none 0 0], blkI By 135 (fyC t), rowI 4 1 t.Ak t.tk.length t.ck (bools t.tk), rowI 3 1 t.Aa t.pl.length t.ca (ints (pl1 t.pl)), rowI 3 1 t.Al t.pl.length t.cl (ints (pl2 t.pl))]) from hS3)
            clear hS3 u1
            go_wp2_with (first
              | (at_builtin
                 refine wpList_app1 (cs := #[.int .i64 (2)]) rfl (.tmp 80) (.tmp 82) 46 rfl (F := No) (W := w) sErr (items := [_, _, _, _, _, _, _, _, _]) HS3.out 2 (n := k) rfl rfl rfl (by simp) rfl rfl (by omega) ?_
                 intro A6 c6 w6 hS6 hC6
                 obtain ⟨v1, v2, v3, -⟩ := hS6.rules 1 (g := gO) (t := 49) rfl
                 (have v5 := (v1 0).trans (show _ = some (.slice A1 k c1) from rfl))
                 (have v6 := (v1 1).trans (show _ = some (.slice A2 k c2) from rfl))
                 (have HS6 := hide (hS6.set_ 1 (g := gO) (t := 49) rfl 0 (.slice A6 (k + 1) c6)))
                 clear hS6 hC6 v1)
              | (at_builtin
                 refine wpList_app1 (cs := #[.int .i64 (0)]) rfl (.tmp 86) (.tmp 88) 35 rfl (F := No) (W := w) sInt (items := [_, _, _, _, _, _, _, _, _]) HS6.out 3 (n := k) rfl rfl rfl (by simp) rfl rfl (by omega) ?_
                 intro A7 c7 w7 hS7 hC7
                 obtain ⟨v1, v2, v3, -⟩ := hS7.rules 1 (g := gO) (t := 49) rfl
                 (have v6 := (v1 1).trans (show _ = some (.slice A2 k c2) from rfl))
                 (have HS7 := hide (((hS7.set_ 1 (g := gO) (t := 49) rfl 1 (.slice A7 (k + 1) c7))).sub (List.sublist_cons_self _ _)))
                 clear hS7 hC7 v1))
            go_roundw
            case rel => exact ⟨k + 1, A6, c6, A7, c7, t, by omega, by go_num, by rw [(show runS (fbStep L) (qs.take (k + 1)) (fy0 size) = ((runS (fbStep L) (qs.take k) (fy0 size)).1 ++ [(2, 0)], (t).y) from by rw [HRS2.out])]; exact hide rfl, by
              rw [(show runS (fbStep L) (qs.take (k + 1)) (fy0 size) = ((runS (fbStep L) (qs.take k) (fy0 size)).1 ++ [(2, 0)], (t).y) from by rw [HRS2.out])]
              dsimp only
              rw [map_snoc, map_snoc, ints_snoc, ints_snoc]
              exact HS7.out⟩
            case measure => simp [intOf]; omega
        · have y2 : (qk == 2) = false := by simp [hk2]
          have HST := hide (show fbStep L (qk, qn) t.y = ((5, 0), t.y) from by
            unfold fbStep
            rw [if_neg hk1, if_neg hk2])
          clear hk1 hk2
          have hrs := HRS.out
          rw [show fbStep L (qk, qn) t.y = ((5, 0), t.y) from HST.out] at hrs
          have HRS2 := hide hrs
          clear hrs HRS HST
          go_upto_region 25 with fail
          have hS3 := HS2.out
          try clear z2
          try clear z3
          try clear z5
          try clear z6
          try clear HS2
          clear HO htl
          obtain ⟨u1, u2, u3, -⟩ := hS3.rules 1 (g := gO) (t := 49) rfl
          have u5 := (u1 0).trans (show _ = some (.slice A1 k c1) from rfl)
          have u6 := (u1 1).trans (show _ = some (.slice A2 k c2) from rfl)
          have HS3 := hide (show Sep No w _ ([blkI gd 127 #[.int .i64 qk, .int .i64 qn], blkI gO 49 #[.slice A1 k c1, .slice A2 k c2, .slice none 0 0], rowI 30 1 A1 k c1 (ints ((runS (fbStep L) (qs.take k) (fy0 size)).1.map fun e => e.1)), rowI 3 1 A2 k c2 (ints ((runS (fbStep L) (qs.take k) (fy0 size)).1.map fun e => e.2)), blkI g 49 #[.slice none 0 0, .slice none 0 0, .slice none 0 0], blkI By 135 (fyC t), rowI 4 1 t.Ak t.tk.length t.ck (bools t.tk), rowI 3 1 t.Aa t.pl.length t.ca (ints (pl1 t.pl)), rowI 3 1 t.Al t.pl.length t.cl (ints (pl2 t.pl))]) from hS3)
          clear hS3 u1
          go_wp2_with (first
            | (at_builtin
               refine wpList_app1 (cs := #[.int .i64 (5)]) rfl (.tmp 80) (.tmp 82) 46 rfl (F := No) (W := w) sErr (items := [_, _, _, _, _, _, _, _, _]) HS3.out 2 (n := k) rfl rfl rfl (by simp) rfl rfl (by omega) ?_
               intro A6 c6 w6 hS6 hC6
               obtain ⟨v1, v2, v3, -⟩ := hS6.rules 1 (g := gO) (t := 49) rfl
               (have v5 := (v1 0).trans (show _ = some (.slice A1 k c1) from rfl))
               (have v6 := (v1 1).trans (show _ = some (.slice A2 k c2) from rfl))
               (have HS6 := hide (hS6.set_ 1 (g := gO) (t := 49) rfl 0 (.slice A6 (k + 1) c6)))
               clear hS6 hC6 v1)
            | (at_builtin
               refine wpList_app1 (cs := #[.int .i64 (0)]) rfl (.tmp 86) (.tmp 88) 35 rfl (F := No) (W := w) sInt (items := [_, _, _, _, _, _, _, _, _]) HS6.out 3 (n := k) rfl rfl rfl (by simp) rfl rfl (by omega) ?_
               intro A7 c7 w7 hS7 hC7
               obtain ⟨v1, v2, v3, -⟩ := hS7.rules 1 (g := gO) (t := 49) rfl
               (have v6 := (v1 1).trans (show _ = some (.slice A2 k c2) from rfl))
               (have HS7 := hide (((hS7.set_ 1 (g := gO) (t := 49) rfl 1 (.slice A7 (k + 1) c7))).sub (List.sublist_cons_self _ _)))
               clear hS7 hC7 v1))
          go_roundw
          case rel => exact ⟨k + 1, A6, c6, A7, c7, t, by omega, by go_num, by rw [(show runS (fbStep L) (qs.take (k + 1)) (fy0 size) = ((runS (fbStep L) (qs.take k) (fy0 size)).1 ++ [(5, 0)], (t).y) from by rw [HRS2.out])]; exact hide rfl, by
            rw [(show runS (fbStep L) (qs.take (k + 1)) (fy0 size) = ((runS (fbStep L) (qs.take k) (fy0 size)).1 ++ [(5, 0)], (t).y) from by rw [HRS2.out])]
            dsimp only
            rw [map_snoc, map_snoc, ints_snoc, ints_snoc]
            exact HS7.out⟩
          case measure => simp [intOf]; omega
    · obtain rfl : k = nd := by omega
      rw [List.take_of_length_le (by rw [HDL.out]; exact Nat.le_refl _)] at HI hS
      have CB := hide (fyblocks_any (fy_end hS) (by omega))
      have HTK := hide (show t.tk = (runS (fbStep L) qs (fy0 size)).2.tk from by rw [← HI.out]; rfl)
      have HS := hide hS
      clear hS okk HO
      go_wp2_with fail
      refine CB.out.mono ?_
      rintro e w4 ⟨A3, c3, rfl, hP3⟩
      have hS4 := row_new HS.out hP3
      obtain ⟨u1, u2, u3, -⟩ := hS4.rules 1 (g := gO) (t := 49) rfl
      have u7 := (u1 2).trans (show _ = some (.slice none 0 0) from rfl)
      obtain ⟨m, hm⟩ : ∃ m, (blksF t.tk).length = m := ⟨_, rfl⟩
      rw [hm] at hS4 ⊢
      have hS5 := hS4.set_ 1 (g := gO) (t := 49) rfl 2 (.slice A3 m c3)
      have CP := fypieces_any (B := By) (t := t) (by omega) L 0 _ (fy_end (pre := [_, _, _, _, _]) hS5) (by rw [htl, HSE.out]; omega)
      rw [Nat.zero_mul, ← HSE.out] at CP
      have HCP := hide (show Calls Try.prog 57 #[.pointer (some ⟨By, 0, none⟩), .int .i64 0, .int .i64 (size : Int)] (w4.setCell ⟨gO, 2, none⟩ (.slice A3 m c3)) _ from CP)
      have HS5 := hide hS5
      clear hS4 hS5 hP3 u1 hm CB HS CP
      go_wp2_with fail
      refine HCP.out.mono ?_
      rintro e w6 ⟨A4, m4, c4, rfl, hm4, hP4⟩
      have hS6 := row_new HS5.out hP4
      obtain ⟨u1, u2, u3, -⟩ := hS6.rules 2 (g := gO) (t := 49) rfl
      have u5 := (u1 0).trans (show _ = some (.slice A1 k c1) from rfl)
      have u6 := (u1 1).trans (show _ = some (.slice A2 k c2) from rfl)
      have u7 := (u1 2).trans (show _ = some (.slice A3 m c3) from rfl)
      obtain ⟨x1, x2, x3, -⟩ := hS6.rules 5 (g := g) (t := 49) rfl
      have x5 := (x1 0).trans (show _ = some (.slice none 0 0) from rfl)
      have x6 := (x1 1).trans (show _ = some (.slice none 0 0) from rfl)
      have x7 := (x1 2).trans (show _ = some (.slice none 0 0) from rfl)
      have n2 : gO ≠ g := fun e => hS6.other (a := 2) (b := 5) rfl rfl (by omega) gO rfl e
      have n4 : g ≠ gO := fun e => n2 e.symm
      rw [HTK.out] at hS6 hm4
      have HM := hide hm4
      have HF := hide ((((hS6.set_ 2 (g := gO) (t := 49) rfl 2 (.slice A4 m4 c4)).set_ 5 (g := g) (t := 49) rfl 0 (.slice A1 k c1)).set_ 5 (g := g) (t := 49) rfl 1 (.slice A2 k c2)).set_ 5 (g := g) (t := 49) rfl 2 (.slice A4 m4 c4))
      clear hS6 hP4 u1 x1 hm4 HCP HS5
      go_wp2_with fail
      refine bp_name ?_
      intro Y hY
      have HFY : Sep No w Y _ := hY ▸ HF.out
      have HF := hide HFY
      obtain ⟨r1, r2, r3, -⟩ := HFY.rules 5 (g := g) (t := 49) rfl
      have r5 := (r1 0).trans (show _ = some (.slice A1 k c1) from rfl)
      have r6 := (r1 1).trans (show _ = some (.slice A2 k c2) from rfl)
      have r7 := (r1 2).trans (show _ = some (.slice A4 m4 c4) from rfl)
      clear hY HFY r1
      refine bodyPost_ret (v := .agg #[.slice A1 k c1, .slice A2 k c2, .slice A4 m4 c4]) (by simp [results, Try.results20, go_sem, r5, r6, r7]) rfl ⟨A1, A2, A4, c1, c2, m4, c4, rfl, HF.out.below_, HF.out.rd 3 rfl, HF.out.rd 4 rfl, HM.out, HF.out.rd 0 rfl⟩
end Go.Proofs.Ytjphckfbbiehdaa
