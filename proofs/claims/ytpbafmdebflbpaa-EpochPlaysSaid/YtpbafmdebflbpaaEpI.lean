/- epoch: Play. -/
import Derived.Test.YtpbafmdebflbpaaEpH
import Derived.Test.YtpbafmdebflbpaaEpM
namespace Go.Proofs.Ytpbafmdebflbpaa
open Go.RowKit

set_option maxHeartbeats 400000 in
theorem eplay_bad (w : World) (threads : Int) (A : Option Addr) (n c : Nat) (h : threads < 1 ∨ 4 < threads ∨ 100 < n) (hn : n ≤ 9223372036854775807) :
    Calls Try.prog 34 #[.int .i64 threads, .slice A n c] w fun e w' => e = .returned (.tuple #[.agg #[.slice none 0 0, .slice none 0 0, .slice none 0 0], .int .i64 (if threads < 1 ∨ 4 < threads then 3 else 1)]) ∧ Below w.heap.size w w' := by
  rcases (show threads < 1 ∨ (¬ threads < 1 ∧ 4 < threads) ∨ (¬ threads < 1 ∧ ¬ 4 < threads ∧ 100 < n) by omega) with h1 | ⟨h1, h2⟩ | ⟨h1, h2, h3⟩
  · rw [if_pos (by omega)]
    go_enter Try.func34, Try.ntmps34
    go_wp2_with fail
    refine bodyPost_ret (v := .tuple #[.agg #[.slice none 0 0, .slice none 0 0, .slice none 0 0], .int .i64 3]) (by simp [results, Try.results34, go_sem]) rfl ⟨rfl, (by repeat (first | with_reducible exact Below.refl _ _ | with_reducible (refine Below.setCell ?_ (by first | omega | (simp; done) | (simp; omega)) _) | with_reducible (refine Below.alloc ?_ (by first | omega | (simp; done) | (simp; omega)) _) | with_reducible refine Below.drew ?_ | with_reducible refine below_drewN ?_ _))⟩
  · rw [if_pos (by omega)]
    go_enter Try.func34, Try.ntmps34
    go_wp2_with fail
    refine bodyPost_ret (v := .tuple #[.agg #[.slice none 0 0, .slice none 0 0, .slice none 0 0], .int .i64 3]) (by simp [results, Try.results34, go_sem]) rfl ⟨rfl, (by repeat (first | with_reducible exact Below.refl _ _ | with_reducible (refine Below.setCell ?_ (by first | omega | (simp; done) | (simp; omega)) _) | with_reducible (refine Below.alloc ?_ (by first | omega | (simp; done) | (simp; omega)) _) | with_reducible refine Below.drew ?_ | with_reducible refine below_drewN ?_ _))⟩
  · rw [if_neg (by omega)]
    clear h
    go_enter Try.func34, Try.ntmps34
    go_wp2_with fail
    refine bodyPost_ret (v := .tuple #[.agg #[.slice none 0 0, .slice none 0 0, .slice none 0 0], .int .i64 1]) (by simp [results, Try.results34, go_sem]) rfl ⟨rfl, (by repeat (first | with_reducible exact Below.refl _ _ | with_reducible (refine Below.setCell ?_ (by first | omega | (simp; done) | (simp; omega)) _) | with_reducible (refine Below.alloc ?_ (by first | omega | (simp; done) | (simp; omega)) _) | with_reducible refine Below.drew ?_ | with_reducible refine below_drewN ?_ _))⟩

theorem perm_c4 {α : Type} (a b c d : α) : [a, b, c, d].Perm [c, a, b, d] := by
  classical
  rw [List.perm_iff_count]
  intro x
  simp only [List.count_cons, List.count_nil]
  omega

set_option maxRecDepth 100000 in
set_option maxHeartbeats 4000000 in
theorem eplay_ok (w : World) (N : Nat) (A : Option Addr) (n c : Nat) (l : List Deed) (h1 : 1 ≤ N) (h2 : N ≤ 4) (h3 : n ≤ 100) (hl : Rd w (fun _ => True) 3 A n (deeds l)) :
    Calls Try.prog 34 #[.int .i64 N, .slice A n c] w fun e w' => ∃ v, e = .returned (.tuple #[v, .int .i64 0]) ∧ Below w.heap.size w w' ∧
      FreeingRd w w' v (EM.at (EM.start N) l n).1 (EM.at (EM.start N) l n).2.freed ((EM.at (EM.start N) l n).2.waits.map Prod.fst) := by
  have HS0 := hide (((Sep.nil No w).blkAt 42 #[.slice none 0 0, .slice none 0 0, .slice none 0 0] rfl).blkAt 3 #[.int .i64 (-1)] (g := w.heap.size + 1) (by simp))
  have C := hide (fun w' h => erepeat w' N (w.heap.size + 1) h1 h2 h)
  go_enter Try.func34, Try.ntmps34
  go_wp2_with fail
  refine (C.out _ (HS0.out.get 1 rfl)).mono ?_
  rintro e w1 ⟨A1, c1, rfl, hR⟩
  have hS1 := HS0.out.snocNew hR.below_ _ (hR.get 0 rfl) (fun g hg => (hR.lo 0 rfl g hg).resolve_left (fun h => h))
  have hS2 : Sep No w w1 [rowI 3 1 A1 N c1 (ints (List.replicate N (-1))), blkI w.heap.size 42 #[.slice none 0 0, .slice none 0 0, .slice none 0 0]] := (hS1.sub (l := [blkI w.heap.size 42 #[.slice none 0 0, .slice none 0 0, .slice none 0 0], rowI 3 1 A1 N c1 (ints (List.replicate N (-1)))]) (by simp)).perm (.swap _ _ _)
  have hS3 := ((hS2.nilRow0 105 2).nilRow0 134 2).perm (perm_c4 _ _ _ _)
  obtain ⟨s0, hs0⟩ : ∃ s0 : Ez, s0 = ⟨w1.heap.size, 0, A1, N, c1, none, 0, 0, none, 0, 0, List.replicate N (-1), [], []⟩ := ⟨_, rfl⟩
  have hS4 : Sep No w (w1.alloc (.cells s0.cells 130)) (s0.items ++ [blkI w.heap.size 42 #[.slice none 0 0, .slice none 0 0, .slice none 0 0]]) := by
    rw [hs0]; exact hS3.consNew ((Below.refl _ w1).alloc (Nat.le_refl _) _) _ (Blk.new w1 130 _) (fun g hg => by rw [show g = w1.heap.size from hg]; exact Nat.le_refl _)
  have hS5 : Sep No w ((w1.alloc (.cells s0.cells 130)).alloc (.cells #[.slice none 0 0, .slice none 0 0, .slice none 0 0] 42)) [s0.item, blkI w.heap.size 42 #[.slice none 0 0, .slice none 0 0, .slice none 0 0], blkI (w1.heap.size + 1) 42 #[.slice none 0 0, .slice none 0 0, .slice none 0 0], rowI 25 1 none 0 0 []] :=
    ((Sep.join hS4).blkAt 42 #[.slice none 0 0, .slice none 0 0, .slice none 0 0] (by simp)).nilRow 25 1
  rw [show s0.cells = #[.int .i64 0, .slice A1 N c1, .slice none 0 0, .slice none 0 0] from by rw [hs0]; rfl] at hS5
  have HS5 := hide hS5
  have HG := hide (show s0.gw = w1.heap.size from by rw [hs0])
  have HA := hide (show s0.abs = EM.start N from by rw [hs0]; rfl)
  have HN := hide (show s0.nw = s0.waits.length from by rw [hs0]; rfl)
  clear hS1 hS2 hS3 hS4 hS5 hR C HS0 hs0
  go_wp2_with fail
  go_loopw [31] (fun i w2 => ∃ (q : Nat) (s : Ez) (Ac : Option Addr) (cc : Nat), q ≤ n ∧ i = .int .i64 q ∧ s.gw = w1.heap.size ∧ Hid (s.abs = (EM.at (EM.start N) l q).2) ∧
    Sep No w w2 [s.item, blkI w.heap.size 42 #[.slice none 0 0, .slice none 0 0, .slice none 0 0], blkI (w1.heap.size + 1) 42 #[.slice Ac q cc, .slice none 0 0, .slice none 0 0], rowI 25 1 Ac q cc (ints (EM.at (EM.start N) l q).1)]) (fun i _ => n - (intOf i).toNat)
  case atStart => exact ⟨0, s0, none, 0, by omega, rfl, HG.out, HA.out, HS5.out⟩
  case round =>
    clear HS5 HG HA HN
    obtain ⟨q, s, Ac, cc, hq, rfl, hgw, HM, hS⟩ := hrel
    obtain ⟨p1, p2, p3, p4⟩ := hS.rules 2 (g := w1.heap.size + 1) (t := 42) rfl
    have hS6 : Sep No w wr (s.items ++ [blkI w.heap.size 42 #[.slice none 0 0, .slice none 0 0, .slice none 0 0], blkI (w1.heap.size + 1) 42 #[.slice Ac q cc, .slice none 0 0, .slice none 0 0], rowI 25 1 Ac q cc (ints (EM.at (EM.start N) l q).1)]) := Sep.split hS
    have hok := (EM.at_ok N l q).1
    rw [← HM.out] at hok
    have lT : s.ths.length = s.nt := by have := (hS6.rd_ 1 rfl).1; simpa [ints] using this
    have lN : s.nt = N := by have := hok.len; rw [← lT]; exact this
    have lW : s.nw = s.waits.length := by have := (hS6.rd_ 2 rfl).1; rw [fates_length] at this; omega
    have lA : s.freed.length + s.waits.length ≤ q := hok.all
    have HOK := hide hok
    have HLT := hide lT
    have HLN := hide lN
    have HLW := hide lW
    have HLA := hide lA
    have hlen : l.length = n := by have := hl.1; rw [deeds_length] at this; omega
    have HL := hide hlen
    clear hok lT lN lW lA hlen
    by_cases hlt : q < n
    · obtain ⟨ad, hA, _, had, hc, hd⟩ := (hl.below hS.below_).atN hlt
      have hql : q < l.length := by rw [HL.out]; exact hlt
      obtain ⟨f0, f1, f2⟩ := deeds_at l q hql
      have e0 := hc _ f0
      have e1 := hd 0 _ f1
      have e2 := hd 1 _ f2
      have hgd : l.getD q (0, 0, 0) = l[q] := by rw [List.getD_eq_getElem?_getD, List.getElem?_eq_getElem hql]; rfl
      obtain ⟨dd, hdd⟩ : ∃ dd, l[q] = dd := ⟨_, rfl⟩
      rw [hdd] at e0 e1 e2 hgd
      clear hc hd f0 f1 f2 hS6 hdd
      obtain ⟨k, who, it⟩ := dd
      dsimp only at e0 e1 e2
      subst hA
      have hat : ∀ (x : Int) (m : EM), s.abs.does k who it q = (x, m) → EM.at (EM.start N) l (q + 1) = ((EM.at (EM.start N) l q).1 ++ [x], m) := fun x m h => by
        rw [HM.out] at h
        simp only [EM.at, hgd]
        rw [h]
      have HT := hide hat
      clear hat hgd
      by_cases hk : k = 4
      · have HD := hide (HT.out ((s.abs.next q).1) ((s.abs.next q).2) (by
          unfold EM.does; rw [if_pos hk]))
        clear HT
        subst hk
        go_wp2_with fail
        rw [← hgw]
        refine (estep_any _ s q N q ((hS.alloc _).get 0 rfl) (by rw [HLN.out]; omega) HOK.out (by omega) HLW.out).mono ?_
        rintro e w3 ⟨s3, rfl, hab, hg3, hS3'⟩
        have hS3 := (hS.alloc _).call 0 rfl hS3'
        clear p1 p2 p3 p4 e0 e1 e2
        obtain ⟨p1, p2, p3, p4⟩ := hS3.rules 2 (g := w1.heap.size + 1) (t := 42) rfl
        go_wp2_with (first
          | (at_builtin
             refine wpList_app1 (cs := #[.int .i64 (s.abs.next q).1]) rfl (.tmp 66) (.tmp 68) 38 rfl sErr hS3 3 (n := q) rfl rfl rfl (by simp) rfl rfl (by omega) ?_
             intro A4 c4 w4 hS4 hC4
             obtain ⟨z1, z2, z3⟩ := hS4.rules 2 (g := w1.heap.size + 1) (t := 42) rfl))
        go_roundw
        case rel =>
          refine ⟨q + 1, s3, A4, c4, by omega, by go_num, hg3.trans hgw, ?_, ?_⟩
          · show _ = _
            rw [HD.out]; exact hab
          · rw [HD.out, ints_app]
            exact hS4.set_ 2 (g := w1.heap.size + 1) (t := 42) rfl 0 (.slice A4 (q + 1) c4)
        case measure => simp [intOf]; omega
      have k1 : (k == 4) = false := by simp [hk]
      by_cases hk1 : k < 1
      · have HD := hide (HT.out (5) (s.abs) (by
          unfold EM.does; rw [if_neg hk, if_pos (Or.inl hk1)]))
        clear HT
        have k2 : decide (k < 1) = true := by simp [hk1]
        clear hk
        go_wp2_with (first
          | (at_builtin
             refine wpList_app1 (cs := #[.int .i64 5]) rfl (.tmp 66) (.tmp 68) 38 rfl sErr (hS.alloc _) 3 (n := q) rfl rfl rfl (by simp) rfl rfl (by omega) ?_
             intro A4 c4 w4 hS4 hC4
             obtain ⟨z1, z2, z3⟩ := hS4.rules 2 (g := w1.heap.size + 1) (t := 42) rfl))
        go_roundw
        case rel =>
          refine ⟨q + 1, s, A4, c4, by omega, by go_num, hgw, ?_, ?_⟩
          · show _ = _
            rw [HD.out]
          · rw [HD.out, ints_app]
            exact hS4.set_ 2 (g := w1.heap.size + 1) (t := 42) rfl 0 (.slice A4 (q + 1) c4)
        case measure => simp [intOf]; omega
      have k2 : decide (k < 1) = false := by simp [hk1]
      by_cases hk4 : 4 < k
      · have HD := hide (HT.out (5) (s.abs) (by
          unfold EM.does; rw [if_neg hk, if_pos (Or.inr hk4)]))
        clear HT
        have k3 : decide (4 < k) = true := by simp [hk4]
        clear hk hk1
        go_wp2_with (first
          | (at_builtin
             refine wpList_app1 (cs := #[.int .i64 5]) rfl (.tmp 66) (.tmp 68) 38 rfl sErr (hS.alloc _) 3 (n := q) rfl rfl rfl (by simp) rfl rfl (by omega) ?_
             intro A4 c4 w4 hS4 hC4
             obtain ⟨z1, z2, z3⟩ := hS4.rules 2 (g := w1.heap.size + 1) (t := 42) rfl))
        go_roundw
        case rel =>
          refine ⟨q + 1, s, A4, c4, by omega, by go_num, hgw, ?_, ?_⟩
          · show _ = _
            rw [HD.out]
          · rw [HD.out, ints_app]
            exact hS4.set_ 2 (g := w1.heap.size + 1) (t := 42) rfl 0 (.slice A4 (q + 1) c4)
        case measure => simp [intOf]; omega
      have k3 : decide (4 < k) = false := by simp [hk4]
      by_cases hw0 : who < 0
      · have HD := hide (HT.out (2) (s.abs) (by
          unfold EM.does; rw [if_neg hk, if_neg (by omega), if_pos (Or.inl hw0)]))
        clear HT
        have k4 : decide (who < 0) = true := by simp [hw0]
        clear hk hk1 hk4
        go_wp2_with (first
          | (at_builtin
             refine wpList_app1 (cs := #[.int .i64 2]) rfl (.tmp 66) (.tmp 68) 38 rfl sErr (hS.alloc _) 3 (n := q) rfl rfl rfl (by simp) rfl rfl (by omega) ?_
             intro A4 c4 w4 hS4 hC4
             obtain ⟨z1, z2, z3⟩ := hS4.rules 2 (g := w1.heap.size + 1) (t := 42) rfl))
        go_roundw
        case rel =>
          refine ⟨q + 1, s, A4, c4, by omega, by go_num, hgw, ?_, ?_⟩
          · show _ = _
            rw [HD.out]
          · rw [HD.out, ints_app]
            exact hS4.set_ 2 (g := w1.heap.size + 1) (t := 42) rfl 0 (.slice A4 (q + 1) c4)
        case measure => simp [intOf]; omega
      have k4 : decide (who < 0) = false := by simp [hw0]
      by_cases hwN : (N : Int) ≤ who
      · have HD := hide (HT.out (2) (s.abs) (by
          unfold EM.does; rw [if_neg hk, if_neg (by omega), if_pos (Or.inr (by rw [HOK.out.len]; exact hwN))]))
        clear HT
        have k5 : decide ((N : Int) ≤ who) = true := by simp [hwN]
        clear hk hk1 hk4 hw0
        go_wp2_with (first
          | (at_builtin
             refine wpList_app1 (cs := #[.int .i64 2]) rfl (.tmp 66) (.tmp 68) 38 rfl sErr (hS.alloc _) 3 (n := q) rfl rfl rfl (by simp) rfl rfl (by omega) ?_
             intro A4 c4 w4 hS4 hC4
             obtain ⟨z1, z2, z3⟩ := hS4.rules 2 (g := w1.heap.size + 1) (t := 42) rfl))
        go_roundw
        case rel =>
          refine ⟨q + 1, s, A4, c4, by omega, by go_num, hgw, ?_, ?_⟩
          · show _ = _
            rw [HD.out]
          · rw [HD.out, ints_app]
            exact hS4.set_ 2 (g := w1.heap.size + 1) (t := 42) rfl 0 (.slice A4 (q + 1) c4)
        case measure => simp [intOf]; omega
      have k5 : decide ((N : Int) ≤ who) = false := by simp [hwN]
      obtain ⟨j, hj⟩ := Int.eq_ofNat_of_zero_le (show 0 ≤ who by omega)
      have HC : ∀ o, Hid _ := fun o => hide (edoes_any (wr.alloc o) s k it j ((hS.alloc _).get 0 rfl) (by rw [HLN.out]; omega) HLT.out (by omega) HLW.out (by have := HLA.out; rw [HLW.out]; omega))
      simp only [show ((j : Nat) : Int) = who from hj.symm] at HC
      have hjt : who.toNat = j := by omega
      have HD := hide (HT.out ((s.abs.thr k j it).1) ((s.abs.thr k j it).2) (by
        unfold EM.does; rw [if_neg hk, if_neg (by omega), if_neg (by rw [HOK.out.len]; omega), hjt]))
      clear HT
      clear hk hk1 hk4 hw0 hwN hj hjt
      go_wp2_with fail
      rw [← hgw]
      refine (HC _).out.mono ?_
      rintro e w3 ⟨s3, rfl, hab, hg3, hS3'⟩
      have hS3 := (hS.alloc _).call 0 rfl hS3'
      clear p1 p2 p3 p4 e0 e1 e2
      obtain ⟨p1, p2, p3, p4⟩ := hS3.rules 2 (g := w1.heap.size + 1) (t := 42) rfl
      go_wp2_with (first
        | (at_builtin
           refine wpList_app1 (cs := #[.int .i64 (s.abs.thr k j it).1]) rfl (.tmp 66) (.tmp 68) 38 rfl sErr hS3 3 (n := q) rfl rfl rfl (by simp) rfl rfl (by omega) ?_
           intro A4 c4 w4 hS4 hC4
           obtain ⟨z1, z2, z3⟩ := hS4.rules 2 (g := w1.heap.size + 1) (t := 42) rfl))
      go_roundw
      case rel =>
        refine ⟨q + 1, s3, A4, c4, by omega, by go_num, hg3.trans hgw, ?_, ?_⟩
        · show _ = _
          rw [HD.out]; exact hab
        · rw [HD.out, ints_app]
          exact hS4.set_ 2 (g := w1.heap.size + 1) (t := 42) rfl 0 (.slice A4 (q + 1) c4)
      case measure => simp [intOf]; omega
    · obtain rfl : q = n := by omega
      obtain ⟨f1, f2, f3, f4, f5, f6, f7, f8⟩ := Ez.facts hS6
      rw [hgw] at f3 f4
      have hne : w1.heap.size + 1 ≠ s.gw := by rw [hgw]; omega
      have hS7 : Sep No w (wr.setCell ⟨w1.heap.size + 1, 1, none⟩ (.slice s.Af s.nf s.cf)) (s.items ++ [blkI w.heap.size 42 #[.slice none 0 0, .slice none 0 0, .slice none 0 0], blkI (w1.heap.size + 1) 42 #[.slice Ac q cc, .slice s.Af s.nf s.cf, .slice none 0 0], rowI 25 1 Ac q cc (ints (EM.at (EM.start N) l q).1), rowI 3 1 none 0 0 []]) :=
        (hS6.set_ 5 (g := w1.heap.size + 1) (t := 42) rfl 1 (.slice s.Af s.nf s.cf)).nilRow 3 1
      have x1 : ∀ (W : World) (i o : Nat) (v : Value), (W.setCell ⟨w1.heap.size + 1, i, none⟩ v).cell? ⟨w1.heap.size, o, none⟩ = W.cell? ⟨w1.heap.size, o, none⟩ := fun W i o v => World.cell?_setCell_other W _ _ v (fun e => by have := congrArg Addr.block e; simp at this)
      have HS7 := hide hS7
      clear f1 f2 f5 f6 f7 f8 hS6 hS7 hne
      go_wp2_with fail
      clear p1 p2 p3 p4 f3 f4
      go_loopw [82] (fun i w3 => ∃ (p : Nat) (Aw : Option Addr) (cw : Nat), p ≤ s.nw ∧ i = .int .i64 p ∧
        Sep No w w3 (s.items ++ [blkI w.heap.size 42 #[.slice none 0 0, .slice none 0 0, .slice none 0 0], blkI (w1.heap.size + 1) 42 #[.slice Ac q cc, .slice s.Af s.nf s.cf, .slice Aw p cw], rowI 25 1 Ac q cc (ints (EM.at (EM.start N) l q).1), rowI 3 1 Aw p cw (ints ((s.waits.take p).map Prod.fst))])) (fun i _ => s.nw - (intOf i).toNat)
      case atStart => exact ⟨0, none, 0, by omega, rfl, HS7.out⟩
      case round =>
        clear HS7 hS
        obtain ⟨p, Aw, cw, hp, rfl, hS⟩ := hrel
        obtain ⟨p1, p2, p3, p4⟩ := hS.rules 5 (g := w1.heap.size + 1) (t := 42) rfl
        by_cases hlt3 : p < s.nw
        · have hpl : p < s.waits.length := by rw [← HLW.out]; exact hlt3
          have hp100 : p ≤ 100 := by have := HLA.out; have := HLW.out; omega
          obtain ⟨ad, hA, _, had, hc, hd⟩ := (hS.rd_ 2 rfl).atN hlt3
          have e0 := hc _ (fates_0 s.waits p hpl)
          have e1 := hd 0 _ (fates_1 s.waits p hpl)
          have HT := hide (List.take_succ_eq_append_getElem hpl)
          obtain ⟨xx, hxx⟩ : ∃ xx, s.waits[p] = xx := ⟨_, rfl⟩
          rw [hxx] at e0 e1 HT
          obtain ⟨x, y⟩ := xx
          dsimp only at e0 e1
          rw [hA]
          have HA := hide hA
          clear hA hc hd hxx
          go_wp2_with (first
            | (at_builtin
               refine wpList_app1 (cs := #[.int .i64 x]) rfl (.tmp 87) (.tmp 90) 40 rfl sInt (hS.alloc _) 7 (n := p) rfl rfl rfl (by simp) rfl rfl (by omega) ?_
               intro A4 c4 w4 hS4 hC4
               obtain ⟨z1, z2, z3⟩ := hS4.rules 5 (g := w1.heap.size + 1) (t := 42) rfl))
          go_roundw
          case rel =>
            refine ⟨p + 1, A4, c4, by omega, by go_num, ?_⟩
            have h5 := hS4.set_ 5 (g := w1.heap.size + 1) (t := 42) rfl 2 (.slice A4 (p + 1) c4)
            rw [HT.out, List.map_append, List.map_cons, List.map_nil, ints_app]
            exact h5
          case measure => simp [intOf]; omega
        · obtain rfl : p = s.nw := by omega
          have hall : s.waits.take s.nw = s.waits := List.take_of_length_le (by rw [HLW.out]; omega)
          rw [hall] at hS
          obtain ⟨y1, y2, y3, y4⟩ := hS.rules 4 (g := w.heap.size) (t := 42) rfl
          clear hall
          go_wp2_with fail
          have hF := ((hS.set_ 4 (g := w.heap.size) (t := 42) rfl 0 (.slice Ac q cc)).set_ 4 (g := w.heap.size) (t := 42) rfl 1 (.slice s.Af s.nf s.cf)).set_ 4 (g := w.heap.size) (t := 42) rfl 2 (.slice Aw s.nw cw)
          refine bodyPost_ret (v := .tuple #[.agg #[.slice Ac q cc, .slice s.Af s.nf s.cf, .slice Aw s.nw cw], .int .i64 0]) (by simp [results, Try.results34, go_sem, y1]) rfl ⟨_, rfl, ?_, ?_⟩
          · exact hF.below_
          · rw [← HM.out]
            exact ⟨_, _, _, _, _, _, _, _, _, rfl, hF.rd 6 rfl, hF.rd 3 rfl, hF.rd 7 rfl⟩
end Go.Proofs.Ytpbafmdebflbpaa
