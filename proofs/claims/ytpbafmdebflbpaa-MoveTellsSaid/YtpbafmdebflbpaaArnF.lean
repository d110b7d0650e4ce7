/- arena: the reference's ArenaCheck. -/
import Derived.Test.YtpbafmdebflbpaaArnE
namespace Go.Proofs.Ytpbafmdebflbpaa
open Go.RowKit Go.Maps

theorem placesOf_mem (l : List (Nat × Nat)) (y : Int) : decide (y ∈ placesOf l) = l.any fun p => (p.1 : Int) == y := by
  rw [Bool.eq_iff_iff]
  simp only [decide_eq_true_eq, placesOf, List.mem_map, List.any_eq_true, beq_iff_eq]

set_option maxRecDepth 100000 in
set_option maxHeartbeats 16000000 in
theorem refAcheck_in (w : World) (AW AR : Option Addr) (nW cW nR cR : Nat) (ws rs : List Int) (hW : WsIn w AW nW cW ws) (hR : WsIn w AR nR cR rs) (h1 : nW ≤ 256) (h2 : nR ≤ 8) :
    Calls Try.prog 32 #[.agg #[.slice AW nW cW, .slice AR nR cR]] w fun e w' => e = .returned (.int .i64 (acheck nW nR ws rs)) ∧ Below w.heap.size w w' := by
  have hS0 := (Sep.nil No w).blkAt 55 #[.slice AW nW cW, .slice AR nR cR] rfl
  have C1 := hide (refStarts_any _ AW nW cW ws (hW.below hS0.below_) h1)
  have HS0 := hide hS0
  have hacc : ¬ (256 < nW ∨ 8 < nR) := by omega
  clear hS0
  go_enter Try.func32, Try.ntmps32
  go_wp2_with fail
  cases hok : (parse nW ws 0).2 with
  | false =>
    rw [hok] at C1
    have HR := hide (show acheck nW nR ws rs = 4 from (if_neg hacc).trans (if_pos hok))
    clear hok hacc
    refine C1.out.mono ?_
    rintro e w1 ⟨A, n, c, rfl, hn, hS⟩
    have hB := HS0.out.below hS.below_
    go_wp2_with fail
    go_ret
    exact ⟨by rw [HR.out] <;> rfl, hB.below_⟩
  | true =>
    rw [hok] at C1
    obtain ⟨P, hP⟩ : ∃ P, (parse nW ws 0).1 = P := ⟨_, rfl⟩
    have hso : startsOf nW ws = placesOf P := by unfold startsOf; rw [if_pos hok, hP]
    have HR := hide (show acheck nW nR ws rs = (if (rs ++ fieldsOf ws P).any (badWord P) = true then 2 else 0) from by
      rw [← hP]; exact (if_neg hacc).trans (if_neg (by rw [hok]; simp)))
    have HPM := hide (show ∀ p ∈ P, p.1 < ws.length ∧ unheadOK (ws.getD p.1 0) ∧ hLen (ws.getD p.1 0) = (p.2 : Int) ∧ p.1 + 1 + p.2 ≤ ws.length from fun p hp => parse_mem nW ws 0 p (fun x hx => (hW.wf x hx).1) (by rw [hP]; exact hp))
    clear hok hacc hP
    refine C1.out.mono ?_
    rintro e w1 ⟨A, n, c, rfl, hn, hS⟩
    rw [hso] at hS
    have hS1 := HS0.out.snocNew hS.below_ _ (hS.get 0 rfl) (fun g hg => (hS.lo 0 rfl g hg).resolve_left (fun h => h))
    have HPL := hide (show P.length = n by have := (hS.rd_ 0 rfl).1; simpa [placesOf] using this)
    obtain ⟨a1, a2, a3, a4⟩ := hS1.rules 0 (g := w.heap.size) (t := 55) rfl
    have HS1 := hide (hS1.nilRow0 24 1)
    have HRL := hide hR.len
    have HWL := hide hW.len
    clear hso HS0 C1 hS hS1
    go_wp2_with fail
    clear a1 a2 a3 a4
    go_loopw [5, 37] (fun s5 i wr => ∃ (k : Nat) (Al : Option Addr) (cl : Nat), k ≤ nR ∧ i = .int .i64 k ∧ s5 = .slice Al k cl ∧ Sep No w wr [rowI 24 1 Al k cl (u64s (rs.take k)), blkI w.heap.size 55 #[.slice AW nW cW, .slice AR nR cR], rowI 3 1 A n c (ints (placesOf P))]) (fun _ i _ => nR - (intOf i).toNat)
    case atStart => exact ⟨0, none, 0, by omega, rfl, rfl, by simpa [u64s] using HS1.out⟩
    case round =>
      clear HS1
      obtain ⟨k, Al, cl, hk, rfl, rfl, hS⟩ := hrel
      by_cases hlt : k < nR
      · have hkl : k < rs.length := by rw [HRL.out]; exact hlt
        obtain ⟨ad, hA, _, had, hc⟩ := (hR.rd.below hS.below_).at_ hlt
        have e0 := hc (.int .u64 rs[k]) (by simp [u64s, List.getElem?_eq_getElem hkl])
        have HT := hide (List.take_succ_eq_append_getElem hkl)
        obtain ⟨x, hx⟩ : ∃ x, rs[k] = x := ⟨_, rfl⟩
        rw [hx] at e0 HT
        rw [hA]
        have HA := hide hA
        clear hc hx hA
        go_wp2_with (first
          | (at_builtin
             refine wpList_app1 (cs := #[.int .u64 x]) rfl (.tmp 41) (.tmp 43) 53 rfl sWord hS 0 (n := k) rfl rfl rfl (by simp) rfl rfl (by omega) ?_
             intro A4 c4 w4 hS4 hC4))
        go_roundw
        case rel => exact ⟨k + 1, A4, c4, by omega, by go_num, rfl, by rw [HT.out, u64s_snoc, ← HA.out]; exact hS4⟩
        case measure => simp [intOf]; omega
      · obtain rfl : k = nR := by omega
        rw [show rs.take k = rs from List.take_of_length_le (by rw [HRL.out]; omega)] at hS
        have HS2 := hide hS
        clear hS
        go_wp2_with fail
        go_loopw [5, 48] (fun s5 i w2 => ∃ (j m : Nat) (Al : Option Addr) (cl : Nat), j ≤ n ∧ i = .int .i64 j ∧ s5 = .slice Al m cl ∧ m ≤ 8 + 4 * j ∧ Sep No w w2 [rowI 24 1 Al m cl (u64s (rs ++ fieldsOf ws (P.take j))), blkI w.heap.size 55 #[.slice AW nW cW, .slice AR k cR], rowI 3 1 A n c (ints (placesOf P))]) (fun _ i _ => n - (intOf i).toNat)
        case atStart => exact ⟨0, k, Al, cl, by omega, rfl, rfl, by omega, by simpa [fieldsOf] using HS2.out⟩
        case round =>
          clear HS2
          obtain ⟨j, m, Al, cl, hj, rfl, rfl, hm, hS⟩ := hrel
          by_cases hlj : j < n
          · have hjl : j < P.length := by rw [HPL.out]; exact hlj
            obtain ⟨ad, hA, _, had, hc⟩ := (hS.rd_ 2 rfl).at_ hlj
            have e0 := hc (.int .i64 (P[j].1 : Int)) (by simp [placesOf, List.getElem?_eq_getElem hjl])
            obtain ⟨pm1, pm2, pm3, pm4⟩ := HPM.out _ (List.getElem_mem hjl)
            have HT := hide (List.take_succ_eq_append_getElem hjl)
            obtain ⟨p, hp⟩ : ∃ p, P[j] = p := ⟨_, rfl⟩
            rw [hp] at e0 HT pm1 pm2 pm3 pm4
            obtain ⟨at_, len⟩ := p
            dsimp only at e0 pm1 pm2 pm3 pm4
            rw [HWL.out] at pm1 pm4
            have hl4 : len ≤ 4 := by have := pm2.1; omega
            have C2 := hide (fun w' (hb : Below w.heap.size w w') => refFields_any w' AW nW cW at_ len ws (hW.below hb) h1 pm2 pm3 pm4)
            obtain ⟨a1, a2, a3, a4⟩ := hS.rules 1 (g := w.heap.size) (t := 55) rfl
            rw [hA]
            have HA := hide hA
            clear hc hp hA pm2 pm3
            go_wp2_with fail
            refine (C2.out _ hS.below_).mono ?_
            rintro e w3 ⟨Ap, cp, rfl, hP3⟩
            have hS3 := hS.snocNew hP3.below_ _ (hP3.get 0 rfl) (fun g hg => (hP3.lo 0 rfl g hg).resolve_left (fun h => h))
            have HS3 := hide hS3
            clear a1 a2 a3 a4 hS hS3 hP3 C2 e0 had
            go_wp2_with fail
            go_loopw [5, 57] (fun s5 i w4 => ∃ (q m : Nat) (Al : Option Addr) (cl : Nat), q ≤ len ∧ i = .int .i64 q ∧ s5 = .slice Al m cl ∧ m ≤ 8 + 4 * j + q ∧ Sep No w w4 [rowI 24 1 Al m cl (u64s (rs ++ fieldsOf ws (P.take j) ++ ((ws.drop (at_ + 1)).take len).take q)), blkI w.heap.size 55 #[.slice AW nW cW, .slice AR k cR], rowI 3 1 A n c (ints (placesOf P)), rowI 24 1 Ap len cp (u64s ((ws.drop (at_ + 1)).take len))]) (fun _ i _ => len - (intOf i).toNat)
            case atStart => exact ⟨0, m, Al, cl, by omega, rfl, rfl, by omega, by simpa using HS3.out⟩
            case round =>
              clear HS3 hm
              obtain ⟨q, m, Al, cl, hq, rfl, rfl, hm, hS⟩ := hrel
              have hfl : ((ws.drop (at_ + 1)).take len).length = len := by have := (hS.rd_ 3 rfl).1; simpa [u64s] using this
              have HFL := hide hfl
              by_cases hlq : q < len
              · have hql : q < ((ws.drop (at_ + 1)).take len).length := by rw [hfl]; exact hlq
                obtain ⟨ad3, hA3, _, had3, hc3⟩ := (hS.rd_ 3 rfl).at_ hlq
                have e1 := hc3 (.int .u64 ((ws.drop (at_ + 1)).take len)[q]) (by simp only [u64s, List.getElem?_map, List.getElem?_eq_getElem hql, Option.map_some])
                have HT3 := hide (List.take_succ_eq_append_getElem hql)
                obtain ⟨y, hy⟩ : ∃ y, ((ws.drop (at_ + 1)).take len)[q] = y := ⟨_, rfl⟩
                rw [hy] at e1 HT3
                rw [hA3]
                have HA3 := hide hA3
                clear hc3 hy hA3 hfl
                go_wp2_with (first
                  | (at_builtin
                     refine wpList_app1 (cs := #[.int .u64 y]) rfl (.tmp 61) (.tmp 63) 53 rfl sWord hS 0 (n := m) rfl rfl rfl (by simp) rfl rfl (by omega) ?_
                     intro A4 c4 w4 hS4 hC4))
                go_roundw
                case rel => exact ⟨q + 1, m + 1, A4, c4, by omega, by go_num, rfl, by omega, by rw [HT3.out, ← List.append_assoc, u64s_snoc, ← HA3.out]; exact hS4⟩
                case measure => simp [intOf]; omega
              · obtain rfl : q = len := by omega
                rw [show ((ws.drop (at_ + 1)).take q).take q = (ws.drop (at_ + 1)).take q from List.take_of_length_le (by rw [hfl]; omega)] at hS
                have hS' := hS.sub (List.take_sublist 3 _)
                clear hfl
                go_wp2_with fail
                go_roundw
                case rel => exact ⟨j + 1, m, Al, cl, by omega, by go_num, rfl, by omega, by rw [HT.out, fieldsOf_snoc, ← List.append_assoc, ← HA.out]; exact hS'⟩
                case measure => simp [intOf]; omega
          · obtain rfl : j = n := by omega
            rw [show P.take j = P from List.take_of_length_le (by rw [HPL.out]; omega)] at hS
            have hxb : ∀ x ∈ rs ++ fieldsOf ws P, 0 ≤ x ∧ x ≤ 18446744073709551615 := by
              intro x hx
              rcases List.mem_append.1 hx with h | h
              · exact hR.wf x h
              · obtain ⟨p, _, hp⟩ := List.mem_flatMap.1 h
                exact hW.wf x (List.mem_of_mem_drop (List.mem_of_mem_take hp))
            have HXB := hide hxb
            have hxl := u64s_row hS 0 rfl
            obtain ⟨xs, hxs⟩ : ∃ xs, rs ++ fieldsOf ws P = xs := ⟨_, rfl⟩
            rw [hxs] at hS HXB HR hxl
            have HXL := hide hxl
            have HS4 := hide hS
            clear hxb hxl hxs hS hW hR HPM HPL
            go_wp2_with fail
            go_loopw [69] (fun i w5 => ∃ q : Nat, q ≤ m ∧ i = .int .i64 q ∧ Hid ((xs.take q).any (badWord P) = false) ∧ Sep No w w5 [rowI 24 1 Al m cl (u64s xs), blkI w.heap.size 55 #[.slice AW nW cW, .slice AR k cR], rowI 3 1 A j c (ints (placesOf P))]) (fun i _ => m - (intOf i).toNat)
            case atStart => exact ⟨0, by omega, rfl, by simp [Hid], HS4.out⟩
            case round =>
              clear HS4
              obtain ⟨q, hq, rfl, HP, hS⟩ := hrel
              by_cases hlt : q < m
              · have hkl : q < xs.length := by rw [HXL.out]; exact hlt
                obtain ⟨ad, hA', _, had, hc⟩ := (hS.rd_ 0 rfl).at_ hlt
                have e0 := hc (.int .u64 xs[q]) (by simp [u64s, List.getElem?_eq_getElem hkl])
                have hb := HXB.out _ (List.getElem_mem hkl)
                have HT := hide (List.take_succ_eq_append_getElem hkl)
                have HM := hide (List.getElem_mem hkl)
                obtain ⟨x, hx⟩ : ∃ x, xs[q] = x := ⟨_, rfl⟩
                rw [hx] at e0 hb HT HM
                obtain ⟨b1, b2⟩ := hb
                have C := fun w' => unpackR_any w' x b1 b2
                rw [hA']
                have HA := hide hA'
                clear hc hx hA'
                by_cases hE : unE x = 0
                · rw [hE] at C
                  have hnext : badWord P x = false → Hid ((xs.take (q + 1)).any (badWord P) = false) := fun h => by
                    show _ = _
                    rw [HT.out, List.any_append, HP.out]; simp [h]
                  cases hr : unR x with
                  | false =>
                    rw [hr] at C
                    have HN := hnext (by unfold badWord; rw [hE, hr]; rfl)
                    have C1 := hide C
                    clear C hnext hE hr
                    go_wp2_with fail
                    refine (C1.out _).mono ?_
                    rintro e w3 ⟨rfl, hb3⟩
                    have hS2 := (hS.below hb3).alloc (.cells #[.bool false, .int .i64 (unA x)] 32)
                    go_wp2_with fail
                    go_roundw
                    case rel => exact ⟨q + 1, by omega, by go_num, HN, by rw [← HA.out]; exact hS2⟩
                    case measure => simp [intOf]; omega
                  | true =>
                    rw [hr] at C
                    cases ht : P.any (fun p => (p.1 : Int) == unA x) with
                    | true =>
                      have HN := hnext (by unfold badWord; rw [hE, hr, ht]; rfl)
                      have C1 := hide C
                      have HTH := hide ((placesOf_mem P (unA x)).trans ht)
                      clear C hnext hE hr ht
                      go_wp2_with fail
                      refine (C1.out _).mono ?_
                      rintro e w3 ⟨rfl, hb3⟩
                      have hS2 := (hS.below hb3).alloc (.cells #[.bool true, .int .i64 (unA x)] 32)
                      go_wp2_with fail
                      refine (has_any _ _ A j c (placesOf P) (unA x) (by omega) (hS2.rd_ 2 rfl)).mono ?_
                      rw [HTH.out]
                      rintro e w6 ⟨rfl, rfl⟩
                      go_wp2_with fail
                      go_roundw
                      case rel => exact ⟨q + 1, by omega, by go_num, HN, by rw [← HA.out]; exact hS2⟩
                      case measure => simp [intOf]; omega
                    | false =>
                      have HN := hide (show (if xs.any (badWord P) = true then (2 : Int) else 0) = 2 from if_pos (List.any_eq_true.2 ⟨x, HM.out, by unfold badWord; rw [hE, hr, ht]; rfl⟩))
                      have C1 := hide C
                      have HTH := hide ((placesOf_mem P (unA x)).trans ht)
                      clear C hnext hE hr ht
                      go_wp2_with fail
                      refine (C1.out _).mono ?_
                      rintro e w3 ⟨rfl, hb3⟩
                      have hS2 := (hS.below hb3).alloc (.cells #[.bool true, .int .i64 (unA x)] 32)
                      go_wp2_with fail
                      refine (has_any _ _ A j c (placesOf P) (unA x) (by omega) (hS2.rd_ 2 rfl)).mono ?_
                      rw [HTH.out]
                      rintro e w6 ⟨rfl, rfl⟩
                      go_wp2_with fail
                      go_ret
                      exact ⟨by rw [HR.out, HN.out] <;> rfl, hS2.below_⟩
                · have HN := hide (show (if xs.any (badWord P) = true then (2 : Int) else 0) = 2 from if_pos (List.any_eq_true.2 ⟨x, HM.out, by unfold badWord; simp [hE]⟩))
                  have y1 : (unE x != 0) = true := by simp [hE]
                  have C1 := hide C
                  clear C hE
                  go_wp2_with fail
                  refine (C1.out _).mono ?_
                  rintro e w3 ⟨rfl, hb3⟩
                  have hS2 := (hS.below hb3).alloc (.cells #[.bool (unR x), .int .i64 (unA x)] 32)
                  go_wp2_with fail
                  go_ret
                  exact ⟨by rw [HR.out, HN.out] <;> rfl, hS2.below_⟩
              · obtain rfl : q = m := by omega
                have hall : xs.any (badWord P) = false := by
                  have := HP.out
                  rw [List.take_of_length_le (by rw [HXL.out]; omega)] at this
                  exact this
                have HN := hide (show (if xs.any (badWord P) = true then (2 : Int) else 0) = 0 from if_neg (by rw [hall]; simp))
                clear hall
                go_wp2_with fail
                go_ret
                exact ⟨by rw [HR.out, HN.out] <;> rfl, hS.below_⟩

set_option maxHeartbeats 1600000 in
theorem refAcheck_any (w : World) (AW AR : Option Addr) (nW cW nR cR : Nat) (ws rs : List Int) (hW : WsIn w AW nW cW ws) (hR : WsIn w AR nR cR rs) :
    Calls Try.prog 32 #[.agg #[.slice AW nW cW, .slice AR nR cR]] w fun e w' => e = .returned (.int .i64 (acheck nW nR ws rs)) ∧ Below w.heap.size w w' := by
  by_cases h1 : 256 < nW
  · rw [show acheck nW nR ws rs = 1 from if_pos (Or.inl h1)]
    clear hW hR
    go_enter Try.func32, Try.ntmps32
    go_wp2_with fail
    go_ret
    exact ⟨rfl, (by repeat (first | with_reducible exact Below.refl _ _ | with_reducible (refine Below.setCell ?_ (by first | omega | (simp; done) | (simp; omega)) _) | with_reducible (refine Below.alloc ?_ (by first | omega | (simp; done) | (simp; omega)) _) | with_reducible refine Below.drew ?_ | with_reducible refine below_drewN ?_ _))⟩
  by_cases h2 : 8 < nR
  · rw [show acheck nW nR ws rs = 1 from if_pos (Or.inr h2)]
    clear hW hR
    go_enter Try.func32, Try.ntmps32
    go_wp2_with fail
    go_ret
    exact ⟨rfl, (by repeat (first | with_reducible exact Below.refl _ _ | with_reducible (refine Below.setCell ?_ (by first | omega | (simp; done) | (simp; omega)) _) | with_reducible (refine Below.alloc ?_ (by first | omega | (simp; done) | (simp; omega)) _) | with_reducible refine Below.drew ?_ | with_reducible refine below_drewN ?_ _))⟩
  exact refAcheck_in w AW AR nW cW nR cR ws rs hW hR (by omega) (by omega)
end Go.Proofs.Ytpbafmdebflbpaa
