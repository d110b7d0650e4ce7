/- The reference's pieces. -/
import Derived.Test.YtjphckfbbiehdaaSBuddyPlays7
import Derived.Test.YtjphckfbbiehdaaSBuddyPlays16
set_option linter.unusedSimpArgs false
set_option linter.unusedVariables false
namespace Go.Proofs.Ytjphckfbbiehdaa
open Go.RowKit
theorem AFb_range (tk : List Bool) (k q : Nat) : AFb tk k q = (List.range (2 ^ k)).all fun i => !tk.getD (q * 2 ^ k + i) true := rfl
theorem pcs_lenq {tk : List Bool} {k q : Nat} : (pcs tk k q).length ≤ 2 ^ k := by
  obtain ⟨g1, g2⟩ := pcs_sorted (tk := tk) k q
  have key : ∀ (l : List Bk) (lo hi : Nat), l.Pairwise (fun a b => a.1 + a.2 ≤ b.1) → (∀ b ∈ l, lo ≤ b.1 ∧ b.1 + b.2 ≤ hi ∧ 0 < b.2) → lo ≤ hi → l.length + lo ≤ hi := by
    intro l
    induction l with
    | nil => intro lo hi _ _ h; simpa using h
    | cons b l ih =>
      intro lo hi hp hb hlo
      obtain ⟨p1, p2⟩ := List.pairwise_cons.1 hp
      have h1 := hb b (List.mem_cons_self ..)
      have h2 := ih (lo + 1) hi p2 (fun c hc => by
        have h3 := p1 c hc
        have h4 := hb c (List.mem_cons_of_mem _ hc)
        exact ⟨by omega, h4.2⟩) (by omega)
      rw [List.length_cons]; omega
  have := key (pcs tk k q) (q * 2 ^ k) ((q + 1) * 2 ^ k) g1 g2 (Nat.mul_le_mul_right _ (Nat.le_succ q))
  rw [Nat.succ_mul] at this
  omega
def allF (tk : List Bool) (a i : Nat) : Bool := (List.range i).all fun j => !tk.getD (a + j) true
theorem allF_succ (tk : List Bool) (a i : Nat) : allF tk a (i + 1) = (allF tk a i && !tk.getD (a + i) true) := by
  unfold allF
  rw [List.range_succ, List.all_append]
  simp
theorem world_shut {w : World} {g n c : Nat} {xs : List Value} {cur : Array Value} (hh : w.heap[g]? = some (.cells cur 231 (0, 0))) (hn : n ≤ c) (hc : c ≤ maxLen) (hs : cur.size = c * 2) (ht : cur.toList.take (n * 2) = xs) : (rowI 231 2 (some ⟨g, 0, none⟩) n c xs).P w := by
  refine (show w.ownsRow 0 231 2 (.slice (some ⟨g, 0, none⟩) n c) n xs from ⟨?_, .inr ⟨g, c, cur, rfl, Nat.zero_le _, hh, hn, hc, hs, ht⟩⟩)
  rw [← ht, List.length_take, Array.length_toList, hs]
  omega
set_option maxRecDepth 100000 in
set_option maxHeartbeats 16000000 in
theorem fypieces_any {B : Nat} {t : FyT} (hn : t.tk.length ≤ 300) : ∀ (k q : Nat) (w : World), (fyI B t).P w → (q + 1) * 2 ^ k ≤ t.tk.length →
    Calls Try.prog 57 #[.pointer (some ⟨B, 0, none⟩), .int .i64 ((q * 2 ^ k : Nat) : Int), .int .i64 ((2 ^ k : Nat) : Int)] w fun e w' => ∃ A n c, e = .returned (.slice A n c) ∧ n = (pcs t.tk k q).length ∧ Sep No w w' [rowI 231 2 A n c (bkV (pcs t.tk k q))] := by
  intro k
  induction k with
  | zero =>
    intro q w hP hfit
    have HPB := hide (fun (X : World) (hb : Below w.heap.size w X) => (show Sep _ w X ([] ++ fyR B t) from ((Sep.start hP).below hb).flat))
    have HQ := hide (show q * 2 ^ 0 + 2 ^ 0 ≤ t.tk.length from by rw [← Nat.succ_mul]; exact hfit)
    obtain ⟨N, hN⟩ : ∃ N, 2 ^ 0 = N := ⟨_, rfl⟩
    obtain ⟨a, ha⟩ : ∃ a, q * 2 ^ 0 = a := ⟨_, rfl⟩
    have hbd := HQ.out
    rw [ha, hN] at hbd
    rw [ha, hN]
    have HAF := hide (show AFb t.tk 0 q = allF t.tk a N from by rw [AFb_range, ha, hN]; rfl)
    have HA := hide ha
    have HN := hide hN
    obtain ⟨tl, htl⟩ : ∃ x, t.tk.length = x := ⟨_, rfl⟩
    have HTL := hide htl
    rw [htl] at hbd
    have hn2 : tl ≤ 300 := by rw [← htl]; exact hn
    have w1 : IntKind.i64.wrap ((a : Int) + (N : Int)) = ((a + N : Nat) : Int) := by rw [wrapF64 _ (by omega) (by omega)]; omega
    clear hP hfit ha hN htl
    go_enter Try.func57, Try.ntmps57
    go_wp2_with fail
    go_loopw [7, 8] (fun s7 s8 wr => ∃ (i : Nat) (fb : Bool), i ≤ N ∧ s7 = .bool fb ∧ Hid (allF t.tk a i = fb) ∧ s8 = .int .i64 ((a + i : Nat) : Int) ∧ wr = w) (fun _ s8 _ => a + N - (intOf s8).toNat)
    case atStart => exact ⟨0, true, by omega, rfl, hide rfl, rfl, rfl⟩
    case round =>
      obtain ⟨i, fb, hi, rfl, HFB, rfl, rfl⟩ := hrel
      by_cases hlt : i < N
      · obtain ⟨y0, y1, y2, y3, y4, y5⟩ := fy_cells (HPB.out _ (Below.refl _ _))
        obtain ⟨g, hA, hil, e1, _, _⟩ := fbool_at ((HPB.out _ (Below.refl _ _)).get 1 rfl) (show a + i < t.tk.length by rw [HTL.out]; omega)
        have hsc := allF_succ t.tk a i
        replace e1 : wr.cell? ⟨g, a + i, none⟩ = some (.bool (t.tk.getD (a + i) true)) := by rw [e1, List.getD_eq_getElem?_getD, List.getElem?_eq_getElem hil]; rfl
        have HIL := hide hil
        obtain ⟨b, hb⟩ : ∃ b, t.tk.getD (a + i) true = b := ⟨_, rfl⟩
        rw [hb] at e1 hsc
        obtain ⟨j, hj⟩ : ∃ j, j = a + i := ⟨_, rfl⟩
        rw [hA, HTL.out] at y0
        have HSC := hide hsc
        have HJ := hide hj
        rw [← hj] at e1 ⊢
        have t1 : decide ((j : Int) < ((a + N : Nat) : Int)) = true := by rw [decide_eq_true_iff]; omega
        have t1' : decide ((j : Int) < (a : Int) + (N : Int)) = true := by rw [decide_eq_true_iff]; omega
        have t2 : (j : Int) < (tl : Int) := by omega
        have t3 : j < tl := by omega
        clear hb hil hsc hA y1 y2 y3 hj
        cases b with
        | true =>
          go_wp2_with fail
          exact ⟨⟨i + 1, false, by omega, rfl, hide (by rw [HSC.out]; simp), by rw [HJ.out]; go_num, by first | rfl | trivial⟩, by have := HJ.out; simp [intOf]; omega⟩
        | false =>
          go_wp2_with fail
          exact ⟨⟨i + 1, fb, by omega, rfl, hide (by rw [HSC.out, HFB.out]; simp), by rw [HJ.out]; go_num, by first | rfl | trivial⟩, by have := HJ.out; simp [intOf]; omega⟩
      · obtain rfl : i = N := by omega
        have t1 : decide (((a + i : Nat) : Int) < ((a + i : Nat) : Int)) = false := by simp
        cases fb with
        | true =>
          have haf := HFB.out
          have hpc : pcs t.tk 0 q = [(a, i)] := by
            unfold pcs
            rw [HAF.out, haf, if_pos rfl]
            exact (by rw [← HA.out, ← HN.out]; simp)
          have HPC := hide hpc
          clear HAF hpc haf HFB
          have hb1 : Blk (wr.alloc (.cells #[.int .i64 (a : Int), .int .i64 (i : Int)] 231)) wr.heap.size 231 #[.int .i64 (a : Int), .int .i64 (i : Int)] := Blk.new wr _ _
          have hR : (rowI 231 2 (some ⟨wr.heap.size, 0, none⟩) 1 1 (bkV [(a, i)])).P (wr.alloc (.cells #[.int .i64 (a : Int), .int .i64 (i : Int)] 231)) := world_shut hb1 (Nat.le_refl _) (by unfold maxLen; omega) rfl rfl
          have HS1 := hide ((Sep.nil No wr).snocNew ((Below.refl _ wr).alloc (Nat.le_refl _) _) _ hR (fun g hg => by
            have : wr.heap.size = g := by simpa [rowI, Value.ownBlock] using hg
            omega))
          clear hb1 hR
          go_wp2_with fail
          refine bodyPost_ret (v := .slice (some ⟨wr.heap.size, 0, none⟩) 1 1) (by simp [results, Try.results57, go_sem]) rfl ⟨_, 1, 1, rfl, by rw [HPC.out]; rfl, by rw [HPC.out]; exact HS1.out⟩
        | false =>
          have haf2 := HFB.out
          have hpc := HAF.out
          rw [haf2] at hpc
          have HPC := hide hpc
          clear HAF haf2 hpc HFB
          obtain rfl : i = 1 := by rw [← HN.out]
          have HP0 := hide (show pcs t.tk 0 q = [] from by
            unfold pcs
            rw [HPC.out, if_neg (by simp)])
          go_wp2_with fail
          refine bodyPost_ret (v := .slice none 0 0) (by simp [results, Try.results57, go_sem]) rfl ⟨none, 0, 0, rfl, by rw [HP0.out]; rfl, by rw [HP0.out]; exact (Sep.nil No wr).nilRow0 231 2⟩
  | succ k ih =>
    intro q w hP hfit
    have HPB := hide (fun (X : World) (hb : Below w.heap.size w X) => (show Sep _ w X ([] ++ fyR B t) from ((Sep.start hP).below hb).flat))
    have HQ := hide (show q * 2 ^ (k + 1) + 2 ^ (k + 1) ≤ t.tk.length from by rw [← Nat.succ_mul]; exact hfit)
    obtain ⟨N, hN⟩ : ∃ N, 2 ^ (k + 1) = N := ⟨_, rfl⟩
    obtain ⟨a, ha⟩ : ∃ a, q * 2 ^ (k + 1) = a := ⟨_, rfl⟩
    have hbd := HQ.out
    rw [ha, hN] at hbd
    rw [ha, hN]
    have HAF := hide (show AFb t.tk (k + 1) q = allF t.tk a N from by rw [AFb_range, ha, hN]; rfl)
    have HA := hide ha
    have HN := hide hN
    obtain ⟨tl, htl⟩ : ∃ x, t.tk.length = x := ⟨_, rfl⟩
    have HTL := hide htl
    rw [htl] at hbd
    have hn2 : tl ≤ 300 := by rw [← htl]; exact hn
    have w1 : IntKind.i64.wrap ((a : Int) + (N : Int)) = ((a + N : Nat) : Int) := by rw [wrapF64 _ (by omega) (by omega)]; omega
    clear hP hfit ha hN htl
    go_enter Try.func57, Try.ntmps57
    go_wp2_with fail
    go_loopw [7, 8] (fun s7 s8 wr => ∃ (i : Nat) (fb : Bool), i ≤ N ∧ s7 = .bool fb ∧ Hid (allF t.tk a i = fb) ∧ s8 = .int .i64 ((a + i : Nat) : Int) ∧ wr = w) (fun _ s8 _ => a + N - (intOf s8).toNat)
    case atStart => exact ⟨0, true, by omega, rfl, hide rfl, rfl, rfl⟩
    case round =>
      obtain ⟨i, fb, hi, rfl, HFB, rfl, rfl⟩ := hrel
      by_cases hlt : i < N
      · obtain ⟨y0, y1, y2, y3, y4, y5⟩ := fy_cells (HPB.out _ (Below.refl _ _))
        obtain ⟨g, hA, hil, e1, _, _⟩ := fbool_at ((HPB.out _ (Below.refl _ _)).get 1 rfl) (show a + i < t.tk.length by rw [HTL.out]; omega)
        have hsc := allF_succ t.tk a i
        replace e1 : wr.cell? ⟨g, a + i, none⟩ = some (.bool (t.tk.getD (a + i) true)) := by rw [e1, List.getD_eq_getElem?_getD, List.getElem?_eq_getElem hil]; rfl
        have HIL := hide hil
        obtain ⟨b, hb⟩ : ∃ b, t.tk.getD (a + i) true = b := ⟨_, rfl⟩
        rw [hb] at e1 hsc
        obtain ⟨j, hj⟩ : ∃ j, j = a + i := ⟨_, rfl⟩
        rw [hA, HTL.out] at y0
        have HSC := hide hsc
        have HJ := hide hj
        rw [← hj] at e1 ⊢
        have t1 : decide ((j : Int) < ((a + N : Nat) : Int)) = true := by rw [decide_eq_true_iff]; omega
        have t1' : decide ((j : Int) < (a : Int) + (N : Int)) = true := by rw [decide_eq_true_iff]; omega
        have t2 : (j : Int) < (tl : Int) := by omega
        have t3 : j < tl := by omega
        clear hb hil hsc hA y1 y2 y3 hj
        cases b with
        | true =>
          go_wp2_with fail
          exact ⟨⟨i + 1, false, by omega, rfl, hide (by rw [HSC.out]; simp), by rw [HJ.out]; go_num, by first | rfl | trivial⟩, by have := HJ.out; simp [intOf]; omega⟩
        | false =>
          go_wp2_with fail
          exact ⟨⟨i + 1, fb, by omega, rfl, hide (by rw [HSC.out, HFB.out]; simp), by rw [HJ.out]; go_num, by first | rfl | trivial⟩, by have := HJ.out; simp [intOf]; omega⟩
      · obtain rfl : i = N := by omega
        have t1 : decide (((a + i : Nat) : Int) < ((a + i : Nat) : Int)) = false := by simp
        cases fb with
        | true =>
          have haf := HFB.out
          have hpc : pcs t.tk (k + 1) q = [(a, i)] := by
            unfold pcs
            rw [HAF.out, haf, if_pos rfl]
            exact (by rw [← HA.out, ← HN.out])
          have HPC := hide hpc
          clear HAF hpc haf HFB
          have hb1 : Blk (wr.alloc (.cells #[.int .i64 (a : Int), .int .i64 (i : Int)] 231)) wr.heap.size 231 #[.int .i64 (a : Int), .int .i64 (i : Int)] := Blk.new wr _ _
          have hR : (rowI 231 2 (some ⟨wr.heap.size, 0, none⟩) 1 1 (bkV [(a, i)])).P (wr.alloc (.cells #[.int .i64 (a : Int), .int .i64 (i : Int)] 231)) := world_shut hb1 (Nat.le_refl _) (by unfold maxLen; omega) rfl rfl
          have HS1 := hide ((Sep.nil No wr).snocNew ((Below.refl _ wr).alloc (Nat.le_refl _) _) _ hR (fun g hg => by
            have : wr.heap.size = g := by simpa [rowI, Value.ownBlock] using hg
            omega))
          clear hb1 hR
          go_wp2_with fail
          refine bodyPost_ret (v := .slice (some ⟨wr.heap.size, 0, none⟩) 1 1) (by simp [results, Try.results57, go_sem]) rfl ⟨_, 1, 1, rfl, by rw [HPC.out]; rfl, by rw [HPC.out]; exact HS1.out⟩
        | false =>
          have haf2 := HFB.out
          have hpc := HAF.out
          rw [haf2] at hpc
          have HPC := hide hpc
          clear HAF haf2 hpc HFB
          obtain ⟨M, hM⟩ : ∃ M, 2 ^ k = M := ⟨_, rfl⟩
          have hiM : i = 2 * M := by rw [← HN.out, ← hM, Nat.pow_succ, Nat.mul_comm]
          have hM0 : 0 < M := by rw [← hM]; exact Nat.two_pow_pos k
          have d1 : (i : Int) / 2 = (M : Int) := by omega
          have d1' : i / 2 = M := by omega
          have d2 : ((i : Int) == 1) = false := by rw [beq_eq_false_iff_ne]; omega
          have d2' : decide (i = 1) = false := by simp; omega
          have ea : 2 * q * 2 ^ k = a := by rw [← HA.out, Nat.pow_succ]; rw [Nat.mul_comm 2 q, Nat.mul_assoc, Nat.mul_comm 2 (2 ^ k)]
          have eb : (2 * q + 1) * 2 ^ k = a + M := by rw [Nat.add_mul, ea, Nat.one_mul, hM]
          have w2 : IntKind.i64.wrap ((a : Int) + (M : Int)) = ((a + M : Nat) : Int) := by rw [wrapF64 _ (by omega) (by omega)]; omega
          have hp0 : pcs t.tk (k + 1) q = pcs t.tk k (2 * q) ++ pcs t.tk k (2 * q + 1) := by
            conv => lhs; unfold pcs
            rw [HPC.out, if_neg (by simp)]
          have C1 := ih (2 * q) wr ((HPB.out _ (Below.refl _ _)).fold.get 0 rfl) (by rw [Nat.succ_mul, ea, hM, HTL.out]; omega)
          rw [ea, hM] at C1
          have C1 := hide C1
          have C2 := hide (fun (X : World) (hb : Below wr.heap.size wr X) => ih (2 * q + 1) X ((HPB.out _ hb).fold.get 0 rfl) (by rw [Nat.succ_mul, eb, hM, HTL.out]; omega))
          rw [eb, hM] at C2
          have HP0 := hide hp0
          obtain ⟨P1, hP1⟩ : ∃ l, pcs t.tk k (2 * q) = l := ⟨_, rfl⟩
          obtain ⟨P2, hP2⟩ : ∃ l, pcs t.tk k (2 * q + 1) = l := ⟨_, rfl⟩
          rw [hP1] at C1 HP0
          rw [hP2] at C2 HP0
          have hM3 : M ≤ 300 := by omega
          have hl1 : P1.length ≤ 300 := by rw [← hP1]; exact Nat.le_trans pcs_lenq (by rw [hM]; exact hM3)
          have hl2 : P2.length ≤ 300 := by rw [← hP2]; exact Nat.le_trans pcs_lenq (by rw [hM]; exact hM3)
          obtain ⟨n1, hn1⟩ : ∃ x, P1.length = x := ⟨_, rfl⟩
          obtain ⟨n2, hn2'⟩ : ∃ x, P2.length = x := ⟨_, rfl⟩
          rw [hn1] at hl1 C1
          rw [hn2'] at hl2 C2
          have HN1 := hide hn1
          have HN2 := hide hn2'
          clear hM hiM ea eb hp0 hP1 hP2 hn1 hn2' ih
          go_wp2_with fail
          refine C1.out.mono ?_
          rintro e w3 ⟨A1, m1, c1, rfl, hm1, hS1⟩
          subst hm1
          have HS1 := hide hS1
          have C2 := hide (C2.out w3 hS1.below_)
          clear C1 hS1
          go_wp2_with fail
          refine C2.out.mono ?_
          rintro e w4 ⟨A2, m2, c2, rfl, hm2, hS2⟩
          subst hm2
          have HS2 := hide (row_new HS1.out hS2)
          clear hS2 HS1 C2
          go_wp2_with fail
          obtain ⟨W0, rfl⟩ : ∃ W0, W0 = wr := ⟨_, rfl⟩
          go_loopw [9, 48] (fun s9 s48 wr2 => ∃ (j : Nat) (A : Option Addr) (n c : Nat), j ≤ m2 ∧ s48 = .int .i64 (j : Int) ∧ s9 = .slice A n c ∧ n = m1 + j ∧ Sep No W0 wr2 [rowI 231 2 A2 m2 c2 (bkV P2), rowI 231 2 A n c (bkV (P1 ++ P2.take j))]) (fun _ s48 _ => m2 - (intOf s48).toNat)
          case atStart => exact ⟨0, A1, m1, c1, by omega, rfl, rfl, rfl, by rw [List.take_zero, List.append_nil]; exact HS2.out⟩
          case round =>
            clear HS2
            obtain ⟨j, A, n, c, hj, rfl, rfl, rfl, hS⟩ := hrel
            by_cases hlt2 : j < m2
            · obtain ⟨g2, hA2, hg2, hjl, e0, e1, _, _⟩ := bk_at (hS.get 0 rfl) hlt2
              have hnx : bkV (P1 ++ P2.take (j + 1)) = bkV (P1 ++ P2.take j) ++ [.int .i64 (P2[j].1 : Int), .int .i64 (P2[j].2 : Int)] := by
                rw [List.take_succ_eq_append_getElem hjl, ← List.append_assoc, bkV_app]
              obtain ⟨⟨ba, bl⟩, hbb⟩ : ∃ b, P2[j] = b := ⟨_, rfl⟩
              rw [hbb] at e0 e1 hnx
              dsimp only at e0 e1 hnx
              subst hA2
              obtain ⟨gd, hgd⟩ : ∃ x, wr.heap.size = x := ⟨_, rfl⟩
              have hS3 := hS.blkAtF 231 #[.int .i64 (ba : Int), .int .i64 (bl : Int)] hgd
              obtain ⟨W2, hW2⟩ : ∃ W, wr.alloc (.cells #[.int .i64 (ba : Int), .int .i64 (bl : Int)] 231) = W := ⟨_, rfl⟩
              rw [hW2] at hS3
              have HW2 := hide hW2
              obtain ⟨z1, z2, z3, -⟩ := hS3.rules 0 (g := gd) (t := 231) rfl
              have z5 := (z1 0).trans (show _ = some (.int .i64 (ba : Int)) from rfl)
              have z6 := (z1 1).trans (show _ = some (.int .i64 (bl : Int)) from rfl)
              have HS3 := hide hS3
              have HNX := hide hnx
              clear hS hS3 hbb hnx hW2 z1 hjl
              go_upto_region 15 with fail
              rw [HW2.out]
              clear HW2 e0 e1 hgd
              go_wp2_with (first
                | (at_builtin
                   refine wpList_app1 (cs := #[.int .i64 (ba : Int), .int .i64 (bl : Int)]) rfl (.tmp 52) (.tmp 54) 47 rfl (F := No) (W := W0) sBk (items := [_, _, _]) HS3.out 2 (n := m1 + j) rfl rfl rfl (by simp) rfl rfl (by omega) ?_
                   intro A7 c7 w7 hS7 hC7
                   (have HS7 := hide (hS7.sub (List.sublist_cons_self _ _)))
                   clear hS7 hC7))
              go_roundw
              case rel => exact ⟨j + 1, A7, m1 + j + 1, c7, by omega, by go_num, rfl, by omega, by rw [HNX.out]; exact HS7.out⟩
              case measure => simp [intOf]; omega
            · obtain rfl : j = m2 := by omega
              have htk : P2.take j = P2 := List.take_of_length_le (by rw [HN2.out]; exact Nat.le_refl _)
              rw [htk] at hS
              have HSE := hide hS
              have HLE := hide (show m1 + j = (P1 ++ P2).length from by rw [List.length_append, HN1.out, HN2.out])
              clear hS htk
              go_wp2_with fail
              refine bodyPost_ret (v := .slice A (m1 + j) c) (by simp [results, Try.results57, go_sem]) rfl ⟨A, m1 + j, c, rfl, by rw [HP0.out]; exact HLE.out, by rw [HP0.out]; exact HSE.out.sub (List.sublist_cons_self _ _)⟩
end Go.Proofs.Ytjphckfbbiehdaa
