/- arena: the reference's ArenaCheck. arena: the program's Begins and Starts. slices.BinarySearch at ints, where the number is there. -/
import Derived.Test.YtpbafmdebflbpaaGMarkTells6
set_option linter.unusedSimpArgs false
set_option linter.unusedVariables false
namespace Go.Proofs.Ytpbafmdebflbpaa
open Go.RowKit Go.Maps

theorem placesOf_mem (l : List (Nat × Nat)) (y : Int) : decide (y ∈ placesOf l) = l.any fun p => (p.1 : Int) == y := by
  rw [Bool.eq_iff_iff]
  simp only [decide_eq_true_eq, placesOf, List.mem_map, List.any_eq_true, beq_iff_eq]

set_option maxRecDepth 100000 in
set_option maxHeartbeats 16000000 in
theorem refAcheck_in (w : World) (AW AR : Option Addr) (nW cW nR cR : Nat) (ws rs : List Int) (hW : WsIn w AW nW cW ws) (hR : WsIn w AR nR cR rs) (h1 : nW ≤ 256) (h2 : nR ≤ 8) :
    Calls Try.prog 32 #[.agg #[.slice AW nW cW, .slice AR nR cR]] w fun e w' => e = .returned (.int .i64 (acheck nW nR ws rs)) ∧ Below w.heap.size w w' := by
  have hS0 := (Sep.nil No w).blkAt 55 #[.slice AW nW cW, .slice AR nR cR] rfl
  have C1 := hide (refStarts_any _ AW nW cW ws (hW.below hS0.below_) h1)
  have HS0 := hide hS0
  have hacc : ¬ (256 < nW ∨ 8 < nR) := by omega
  clear hS0
  go_enter Try.func32, Try.ntmps32
  go_wp2_with fail
  cases hok : (parse nW ws 0).2 with
  | false =>
    rw [hok] at C1
    have HR := hide (show acheck nW nR ws rs = 4 from (if_neg hacc).trans (if_pos hok))
    clear hok hacc
    refine C1.out.mono ?_
    rintro e w1 ⟨A, n, c, rfl, hn, hS⟩
    have hB := HS0.out.below hS.below_
    go_wp2_with fail
    go_ret
    exact ⟨by rw [HR.out] <;> rfl, hB.below_⟩
  | true =>
    rw [hok] at C1
    obtain ⟨P, hP⟩ : ∃ P, (parse nW ws 0).1 = P := ⟨_, rfl⟩
    have hso : startsOf nW ws = placesOf P := by unfold startsOf; rw [if_pos hok, hP]
    have HR := hide (show acheck nW nR ws rs = (if (rs ++ fieldsOf ws P).any (badWord P) = true then 2 else 0) from by
      rw [← hP]; exact (if_neg hacc).trans (if_neg (by rw [hok]; simp)))
    have HPM := hide (show ∀ p ∈ P, p.1 < ws.length ∧ unheadOK (ws.getD p.1 0) ∧ hLen (ws.getD p.1 0) = (p.2 : Int) ∧ p.1 + 1 + p.2 ≤ ws.length from fun p hp => parse_mem nW ws 0 p (fun x hx => (hW.wf x hx).1) (by rw [hP]; exact hp))
    clear hok hacc hP
    refine C1.out.mono ?_
    rintro e w1 ⟨A, n, c, rfl, hn, hS⟩
    rw [hso] at hS
    have hS1 := HS0.out.snocNew hS.below_ _ (hS.get 0 rfl) (fun g hg => (hS.lo 0 rfl g hg).resolve_left (fun h => h))
    have HPL := hide (show P.length = n by have := (hS.rd_ 0 rfl).1; simpa [placesOf] using this)
    obtain ⟨a1, a2, a3, a4⟩ := hS1.rules 0 (g := w.heap.size) (t := 55) rfl
    have HS1 := hide (hS1.nilRow0 24 1)
    have HRL := hide hR.len
    have HWL := hide hW.len
    clear hso HS0 C1 hS hS1
    go_wp2_with fail
    clear a1 a2 a3 a4
    go_loopw [5, 37] (fun s5 i wr => ∃ (k : Nat) (Al : Option Addr) (cl : Nat), k ≤ nR ∧ i = .int .i64 k ∧ s5 = .slice Al k cl ∧ Sep No w wr [rowI 24 1 Al k cl (u64s (rs.take k)), blkI w.heap.size 55 #[.slice AW nW cW, .slice AR nR cR], rowI 3 1 A n c (ints (placesOf P))]) (fun _ i _ => nR - (intOf i).toNat)
    case atStart => exact ⟨0, none, 0, by omega, rfl, rfl, by simpa [u64s] using HS1.out⟩
    case round =>
      clear HS1
      obtain ⟨k, Al, cl, hk, rfl, rfl, hS⟩ := hrel
      by_cases hlt : k < nR
      · have hkl : k < rs.length := by rw [HRL.out]; exact hlt
        obtain ⟨ad, hA, _, had, hc⟩ := (hR.rd.below hS.below_).at_ hlt
        have e0 := hc (.int .u64 rs[k]) (by simp [u64s, List.getElem?_eq_getElem hkl])
        have HT := hide (List.take_succ_eq_append_getElem hkl)
        obtain ⟨x, hx⟩ : ∃ x, rs[k] = x := ⟨_, rfl⟩
        rw [hx] at e0 HT
        rw [hA]
        have HA := hide hA
        clear hc hx hA
        go_wp2_with (first
          | (at_builtin
             refine wpList_app1 (cs := #[.int .u64 x]) rfl (.tmp 41) (.tmp 43) 53 rfl sWord hS 0 (n := k) rfl rfl rfl (by simp) rfl rfl (by omega) ?_
             intro A4 c4 w4 hS4 hC4))
        go_roundw
        case rel => exact ⟨k + 1, A4, c4, by omega, by go_num, rfl, by rw [HT.out, u64s_snoc, ← HA.out]; exact hS4⟩
        case measure => simp [intOf]; omega
      · obtain rfl : k = nR := by omega
        rw [show rs.take k = rs from List.take_of_length_le (by rw [HRL.out]; omega)] at hS
        have HS2 := hide hS
        clear hS
        go_wp2_with fail
        go_loopw [5, 48] (fun s5 i w2 => ∃ (j m : Nat) (Al : Option Addr) (cl : Nat), j ≤ n ∧ i = .int .i64 j ∧ s5 = .slice Al m cl ∧ m ≤ 8 + 4 * j ∧ Sep No w w2 [rowI 24 1 Al m cl (u64s (rs ++ fieldsOf ws (P.take j))), blkI w.heap.size 55 #[.slice AW nW cW, .slice AR k cR], rowI 3 1 A n c (ints (placesOf P))]) (fun _ i _ => n - (intOf i).toNat)
        case atStart => exact ⟨0, k, Al, cl, by omega, rfl, rfl, by omega, by simpa [fieldsOf] using HS2.out⟩
        case round =>
          clear HS2
          obtain ⟨j, m, Al, cl, hj, rfl, rfl, hm, hS⟩ := hrel
          by_cases hlj : j < n
          · have hjl : j < P.length := by rw [HPL.out]; exact hlj
            obtain ⟨ad, hA, _, had, hc⟩ := (hS.rd_ 2 rfl).at_ hlj
            have e0 := hc (.int .i64 (P[j].1 : Int)) (by simp [placesOf, List.getElem?_eq_getElem hjl])
            obtain ⟨pm1, pm2, pm3, pm4⟩ := HPM.out _ (List.getElem_mem hjl)
            have HT := hide (List.take_succ_eq_append_getElem hjl)
            obtain ⟨p, hp⟩ : ∃ p, P[j] = p := ⟨_, rfl⟩
            rw [hp] at e0 HT pm1 pm2 pm3 pm4
            obtain ⟨at_, len⟩ := p
            dsimp only at e0 pm1 pm2 pm3 pm4
            rw [HWL.out] at pm1 pm4
            have hl4 : len ≤ 4 := by have := pm2.1; omega
            have C2 := hide (fun w' (hb : Below w.heap.size w w') => refFields_any w' AW nW cW at_ len ws (hW.below hb) h1 pm2 pm3 pm4)
            obtain ⟨a1, a2, a3, a4⟩ := hS.rules 1 (g := w.heap.size) (t := 55) rfl
            rw [hA]
            have HA := hide hA
            clear hc hp hA pm2 pm3
            go_wp2_with fail
            refine (C2.out _ hS.below_).mono ?_
            rintro e w3 ⟨Ap, cp, rfl, hP3⟩
            have hS3 := hS.snocNew hP3.below_ _ (hP3.get 0 rfl) (fun g hg => (hP3.lo 0 rfl g hg).resolve_left (fun h => h))
            have HS3 := hide hS3
            clear a1 a2 a3 a4 hS hS3 hP3 C2 e0 had
            go_wp2_with fail
            go_loopw [5, 57] (fun s5 i w4 => ∃ (q m : Nat) (Al : Option Addr) (cl : Nat), q ≤ len ∧ i = .int .i64 q ∧ s5 = .slice Al m cl ∧ m ≤ 8 + 4 * j + q ∧ Sep No w w4 [rowI 24 1 Al m cl (u64s (rs ++ fieldsOf ws (P.take j) ++ ((ws.drop (at_ + 1)).take len).take q)), blkI w.heap.size 55 #[.slice AW nW cW, .slice AR k cR], rowI 3 1 A n c (ints (placesOf P)), rowI 24 1 Ap len cp (u64s ((ws.drop (at_ + 1)).take len))]) (fun _ i _ => len - (intOf i).toNat)
            case atStart => exact ⟨0, m, Al, cl, by omega, rfl, rfl, by omega, by simpa using HS3.out⟩
            case round =>
              clear HS3 hm
              obtain ⟨q, m, Al, cl, hq, rfl, rfl, hm, hS⟩ := hrel
              have hfl : ((ws.drop (at_ + 1)).take len).length = len := by have := (hS.rd_ 3 rfl).1; simpa [u64s] using this
              have HFL := hide hfl
              by_cases hlq : q < len
              · have hql : q < ((ws.drop (at_ + 1)).take len).length := by rw [hfl]; exact hlq
                obtain ⟨ad3, hA3, _, had3, hc3⟩ := (hS.rd_ 3 rfl).at_ hlq
                have e1 := hc3 (.int .u64 ((ws.drop (at_ + 1)).take len)[q]) (by simp only [u64s, List.getElem?_map, List.getElem?_eq_getElem hql, Option.map_some])
                have HT3 := hide (List.take_succ_eq_append_getElem hql)
                obtain ⟨y, hy⟩ : ∃ y, ((ws.drop (at_ + 1)).take len)[q] = y := ⟨_, rfl⟩
                rw [hy] at e1 HT3
                rw [hA3]
                have HA3 := hide hA3
                clear hc3 hy hA3 hfl
                go_wp2_with (first
                  | (at_builtin
                     refine wpList_app1 (cs := #[.int .u64 y]) rfl (.tmp 61) (.tmp 63) 53 rfl sWord hS 0 (n := m) rfl rfl rfl (by simp) rfl rfl (by omega) ?_
                     intro A4 c4 w4 hS4 hC4))
                go_roundw
                case rel => exact ⟨q + 1, m + 1, A4, c4, by omega, by go_num, rfl, by omega, by rw [HT3.out, ← List.append_assoc, u64s_snoc, ← HA3.out]; exact hS4⟩
                case measure => simp [intOf]; omega
              · obtain rfl : q = len := by omega
                rw [show ((ws.drop (at_ + 1)).take q).take q = (ws.drop (at_ + 1)).take q from List.take_of_length_le (by rw [hfl]; omega)] at hS
                have hS' := hS.sub (List.take_sublist 3 _)
                clear hfl
                go_wp2_with fail
                go_roundw
                case rel => exact ⟨j + 1, m, Al, cl, by omega, by go_num, rfl, by omega, by rw [HT.out, fieldsOf_snoc, ← List.append_assoc, ← HA.out]; exact hS'⟩
                case measure => simp [intOf]; omega
          · obtain rfl : j = n := by omega
            rw [show P.take j = P from List.take_of_length_le (by rw [HPL.out]; omega)] at hS
            have hxb : ∀ x ∈ rs ++ fieldsOf ws P, 0 ≤ x ∧ x ≤ 18446744073709551615 := by
              intro x hx
              rcases List.mem_append.1 hx with h | h
              · exact hR.wf x h
              · obtain ⟨p, _, hp⟩ := List.mem_flatMap.1 h
                exact hW.wf x (List.mem_of_mem_drop (List.mem_of_mem_take hp))
            have HXB := hide hxb
            have hxl := u64s_row hS 0 rfl
            obtain ⟨xs, hxs⟩ : ∃ xs, rs ++ fieldsOf ws P = xs := ⟨_, rfl⟩
            rw [hxs] at hS HXB HR hxl
            have HXL := hide hxl
            have HS4 := hide hS
            clear hxb hxl hxs hS hW hR HPM HPL
            go_wp2_with fail
            go_loopw [69] (fun i w5 => ∃ q : Nat, q ≤ m ∧ i = .int .i64 q ∧ Hid ((xs.take q).any (badWord P) = false) ∧ Sep No w w5 [rowI 24 1 Al m cl (u64s xs), blkI w.heap.size 55 #[.slice AW nW cW, .slice AR k cR], rowI 3 1 A j c (ints (placesOf P))]) (fun i _ => m - (intOf i).toNat)
            case atStart => exact ⟨0, by omega, rfl, by simp [Hid], HS4.out⟩
            case round =>
              clear HS4
              obtain ⟨q, hq, rfl, HP, hS⟩ := hrel
              by_cases hlt : q < m
              · have hkl : q < xs.length := by rw [HXL.out]; exact hlt
                obtain ⟨ad, hA', _, had, hc⟩ := (hS.rd_ 0 rfl).at_ hlt
                have e0 := hc (.int .u64 xs[q]) (by simp [u64s, List.getElem?_eq_getElem hkl])
                have hb := HXB.out _ (List.getElem_mem hkl)
                have HT := hide (List.take_succ_eq_append_getElem hkl)
                have HM := hide (List.getElem_mem hkl)
                obtain ⟨x, hx⟩ : ∃ x, xs[q] = x := ⟨_, rfl⟩
                rw [hx] at e0 hb HT HM
                obtain ⟨b1, b2⟩ := hb
                have C := fun w' => unpackR_any w' x b1 b2
                rw [hA']
                have HA := hide hA'
                clear hc hx hA'
                by_cases hE : unE x = 0
                · rw [hE] at C
                  have hnext : badWord P x = false → Hid ((xs.take (q + 1)).any (badWord P) = false) := fun h => by
                    show _ = _
                    rw [HT.out, List.any_append, HP.out]; simp [h]
                  cases hr : unR x with
                  | false =>
                    rw [hr] at C
                    have HN := hnext (by unfold badWord; rw [hE, hr]; rfl)
                    have C1 := hide C
                    clear C hnext hE hr
                    go_wp2_with fail
                    refine (C1.out _).mono ?_
                    rintro e w3 ⟨rfl, hb3⟩
                    have hS2 := (hS.below hb3).alloc (.cells #[.bool false, .int .i64 (unA x)] 32)
                    go_wp2_with fail
                    go_roundw
                    case rel => exact ⟨q + 1, by omega, by go_num, HN, by rw [← HA.out]; exact hS2⟩
                    case measure => simp [intOf]; omega
                  | true =>
                    rw [hr] at C
                    cases ht : P.any (fun p => (p.1 : Int) == unA x) with
                    | true =>
                      have HN := hnext (by unfold badWord; rw [hE, hr, ht]; rfl)
                      have C1 := hide C
                      have HTH := hide ((placesOf_mem P (unA x)).trans ht)
                      clear C hnext hE hr ht
                      go_wp2_with fail
                      refine (C1.out _).mono ?_
                      rintro e w3 ⟨rfl, hb3⟩
                      have hS2 := (hS.below hb3).alloc (.cells #[.bool true, .int .i64 (unA x)] 32)
                      go_wp2_with fail
                      refine (has_any _ _ A j c (placesOf P) (unA x) (by omega) (hS2.rd_ 2 rfl)).mono ?_
                      rw [HTH.out]
                      rintro e w6 ⟨rfl, rfl⟩
                      go_wp2_with fail
                      go_roundw
                      case rel => exact ⟨q + 1, by omega, by go_num, HN, by rw [← HA.out]; exact hS2⟩
                      case measure => simp [intOf]; omega
                    | false =>
                      have HN := hide (show (if xs.any (badWord P) = true then (2 : Int) else 0) = 2 from if_pos (List.any_eq_true.2 ⟨x, HM.out, by unfold badWord; rw [hE, hr, ht]; rfl⟩))
                      have C1 := hide C
                      have HTH := hide ((placesOf_mem P (unA x)).trans ht)
                      clear C hnext hE hr ht
                      go_wp2_with fail
                      refine (C1.out _).mono ?_
                      rintro e w3 ⟨rfl, hb3⟩
                      have hS2 := (hS.below hb3).alloc (.cells #[.bool true, .int .i64 (unA x)] 32)
                      go_wp2_with fail
                      refine (has_any _ _ A j c (placesOf P) (unA x) (by omega) (hS2.rd_ 2 rfl)).mono ?_
                      rw [HTH.out]
                      rintro e w6 ⟨rfl, rfl⟩
                      go_wp2_with fail
                      go_ret
                      exact ⟨by rw [HR.out, HN.out] <;> rfl, hS2.below_⟩
                · have HN := hide (show (if xs.any (badWord P) = true then (2 : Int) else 0) = 2 from if_pos (List.any_eq_true.2 ⟨x, HM.out, by unfold badWord; simp [hE]⟩))
                  have y1 : (unE x != 0) = true := by simp [hE]
                  have C1 := hide C
                  clear C hE
                  go_wp2_with fail
                  refine (C1.out _).mono ?_
                  rintro e w3 ⟨rfl, hb3⟩
                  have hS2 := (hS.below hb3).alloc (.cells #[.bool (unR x), .int .i64 (unA x)] 32)
                  go_wp2_with fail
                  go_ret
                  exact ⟨by rw [HR.out, HN.out] <;> rfl, hS2.below_⟩
              · obtain rfl : q = m := by omega
                have hall : xs.any (badWord P) = false := by
                  have := HP.out
                  rw [List.take_of_length_le (by rw [HXL.out]; omega)] at this
                  exact this
                have HN := hide (show (if xs.any (badWord P) = true then (2 : Int) else 0) = 0 from if_neg (by rw [hall]; simp))
                clear hall
                go_wp2_with fail
                go_ret
                exact ⟨by rw [HR.out, HN.out] <;> rfl, hS.below_⟩

set_option maxHeartbeats 1600000 in
theorem refAcheck_any (w : World) (AW AR : Option Addr) (nW cW nR cR : Nat) (ws rs : List Int) (hW : WsIn w AW nW cW ws) (hR : WsIn w AR nR cR rs) :
    Calls Try.prog 32 #[.agg #[.slice AW nW cW, .slice AR nR cR]] w fun e w' => e = .returned (.int .i64 (acheck nW nR ws rs)) ∧ Below w.heap.size w w' := by
  by_cases h1 : 256 < nW
  · rw [show acheck nW nR ws rs = 1 from if_pos (Or.inl h1)]
    clear hW hR
    go_enter Try.func32, Try.ntmps32
    go_wp2_with fail
    go_ret
    exact ⟨rfl, (by repeat (first | with_reducible exact Below.refl _ _ | with_reducible (refine Below.setCell ?_ (by first | omega | (simp; done) | (simp; omega)) _) | with_reducible (refine Below.alloc ?_ (by first | omega | (simp; done) | (simp; omega)) _) | with_reducible refine Below.drew ?_ | with_reducible refine below_drewN ?_ _))⟩
  by_cases h2 : 8 < nR
  · rw [show acheck nW nR ws rs = 1 from if_pos (Or.inr h2)]
    clear hW hR
    go_enter Try.func32, Try.ntmps32
    go_wp2_with fail
    go_ret
    exact ⟨rfl, (by repeat (first | with_reducible exact Below.refl _ _ | with_reducible (refine Below.setCell ?_ (by first | omega | (simp; done) | (simp; omega)) _) | with_reducible (refine Below.alloc ?_ (by first | omega | (simp; done) | (simp; omega)) _) | with_reducible refine Below.drew ?_ | with_reducible refine below_drewN ?_ _))⟩
  exact refAcheck_in w AW AR nW cW nR cR ws rs hW hR (by omega) (by omega)
end Go.Proofs.Ytpbafmdebflbpaa

namespace Go.Proofs.Ytpbafmdebflbpaa
open Go.RowKit Go.Maps

def BgItems (bl : Nat) (A : Option Addr) (n c : Nat) (xs : List Int) : List Item := [rowI 3 1 A n c (ints xs), blkI bl 40 #[.slice A n c]]

set_option maxRecDepth 100000 in
set_option maxHeartbeats 4000000 in
theorem begins1_any (w : World) (bl : Nat) (A : Option Addr) (n c : Nat) (xs : List Int) (at_ len : Nat) (mk : Bool) (age : Int) (hs : (allI (BgItems bl A n c xs)).P w) (hn : n ≤ 1000) :
    Calls Try.prog 107 #[.int .i64 at_, .agg #[.int .i64 len, .bool mk, .int .i64 age], .pointer (some ⟨bl, 0, none⟩)] w fun e w' => ∃ A' c', e = .returned (.bool true) ∧
      Sep (allI (BgItems bl A n c xs)).fp w w' [allI (BgItems bl A' (n + 1) c' (xs ++ [(at_ : Int)]))] := by
  obtain ⟨F, hF⟩ : ∃ F, (allI (BgItems bl A n c xs)).fp = F := ⟨_, rfl⟩
  have hS := (Sep.start hs).flat
  rw [hF] at hS ⊢
  clear hF hs
  obtain ⟨m1, m2, m3, m4⟩ := hS.rules 1 (g := bl) (t := 40) rfl
  have m5 : w.cell? ⟨bl, 0, none⟩ = some (.slice A n c) := by rw [m1]; rfl
  clear m1
  go_enter Try.func107, Try.ntmps107
  go_wp2_with (first
    | (at_builtin
       refine wpList_app1 (cs := #[.int .i64 at_]) rfl (.tmp 6) (.tmp 8) 40 rfl sInt (hS.alloc _) 0 (n := n) rfl rfl rfl (by simp) rfl rfl (by omega) ?_
       intro A4 c4 w4 hS4 hC4
       obtain ⟨z1, z2, z3, z4⟩ := hS4.rules 1 (g := bl) (t := 40) rfl
       (have z5 : w4.cell? ⟨bl, 0, none⟩ = some (.slice A n c) := by rw [z1]; rfl)
       clear z1))
  have hS5 := hS4.set_ 1 (g := bl) (t := 40) rfl 0 (.slice A4 (n + 1) c4)
  have e : ints xs ++ [.int .i64 (at_ : Int)] = ints (xs ++ [(at_ : Int)]) := (ints_snoc2 _ _).symm
  have hS6 : Sep F w (w4.setCell ⟨bl, 0, none⟩ (.slice A4 (n + 1) c4)) (BgItems bl A4 (n + 1) c4 (xs ++ [(at_ : Int)])) := by
    unfold BgItems; rw [← e]; exact hS5
  go_ret
  first | exact ⟨A4, c4, rfl, hS6.fold⟩ | exact ⟨rfl, A4, c4, hS6.fold⟩

set_option maxRecDepth 100000 in
set_option maxHeartbeats 4000000 in
theorem walkBg_any (w : World) (bl : Nat) (Aw : Option Addr) (nw cw : Nat) (ws : List Int)
    (hs : (allI (BgItems bl none 0 0 [])).P w) (hw : Rd w (fun g => ¬ (allI (BgItems bl none 0 0 [])).fp g) 1 Aw nw (u64s ws)) (hn : nw ≤ 256)
    (hws : ∀ x ∈ ws, 0 ≤ x ∧ x ≤ 18446744073709551615) :
    Calls Try.prog 74 #[.slice Aw nw cw, .func (.func 107) #[] #[.pointer (some ⟨bl, 0, none⟩)]] w fun e w' => ∃ (pre : List (Nat × Nat)) (Af : Option Addr) (nf cf : Nat),
      e = .returned (.bool (parse nw ws 0).2) ∧ ((parse nw ws 0).2 = true → pre = (parse nw ws 0).1) ∧ nf ≤ 256 ∧
      Sep (allI (BgItems bl none 0 0 [])).fp w w' [allI (BgItems bl Af nf cf (placesOf pre))] := by
  obtain ⟨F, hF⟩ : ∃ F, (allI (BgItems bl none 0 0 [])).fp = F := ⟨_, rfl⟩
  have hS0 := Sep.start hs
  rw [hF] at hS0 hw ⊢
  have hw0 : Rd w (fun g => g < w.heap.size ∧ ¬ F g) 1 Aw nw (u64s ws) := hw.more (fun g hg hn => ⟨hg, hn⟩)
  have HWL := hide (show ws.length = nw by have := hw.1; simpa [u64s] using this)
  have HS0 := hide hS0
  clear hF hs hw hS0
  go_enter Try.func74, Try.ntmps74
  go_wp2_with fail
  go_loopw [5] (fun i wr => ∃ (at_ f : Nat) (pre : List (Nat × Nat)) (Af : Option Addr) (nf cf : Nat), at_ ≤ nw ∧ i = .int .i64 at_ ∧ Hid (parse nw ws 0 = (pre ++ (parse f ws at_).1, (parse f ws at_).2)) ∧ nw ≤ f + at_ ∧ nf ≤ at_ ∧
    Sep F w wr [allI (BgItems bl Af nf cf (placesOf pre))]) (fun i _ => nw - (intOf i).toNat)
  case atStart => exact ⟨0, nw, [], none, 0, 0, by omega, rfl, by simp [Hid], by omega, by omega, HS0.out⟩
  case round =>
    clear HS0
    obtain ⟨at_, f, pre, Af, nf, cf, hat, rfl, HP, hf, hnfl, hS⟩ := hrel
    by_cases hlt : at_ < nw
    · have hkl : at_ < ws.length := by rw [HWL.out]; exact hlt
      obtain ⟨ad, hA, _, had, hc⟩ := (hw0.chg hS.bel (fun g hF hD => hD.2 hF)).at_ hlt
      have e0 := hc (.int .u64 ws[at_]) (by simp [u64s, List.getElem?_eq_getElem hkl])
      have hb := hws _ (List.getElem_mem hkl)
      have hgd : ws.getD at_ 0 = ws[at_] := by rw [List.getD_eq_getElem?_getD, List.getElem?_eq_getElem hkl]; rfl
      have HGD := hide hgd
      obtain ⟨x, hx⟩ : ∃ x, ws[at_] = x := ⟨_, rfl⟩
      rw [hx] at e0 hb HGD
      obtain ⟨b1, b2⟩ := hb
      rw [hA]
      have HA := hide hA
      clear hc hx hgd hA
      by_cases hok : unheadOK x
      · obtain ⟨len, hlen⟩ := Int.eq_ofNat_of_zero_le (show 0 ≤ hLen x by unfold hLen; omega)
        have hl4 : len ≤ 4 := by have := hok.1; omega
        have HLEN := hide hlen
        have C := fun w' => unheadP_ok w' x b1 b2 hok
        rw [hlen] at C
        have C1 := hide C
        have HOK := hide hok
        clear C hlen hok
        go_wp2_with fail
        refine (C1.out _).mono ?_
        rintro e w1 ⟨rfl, hb1⟩
        have hS1 := (hS.below hb1).blkAt 23 #[.int .i64 len, .bool (hMark x), .int .i64 (hAge x)] rfl
        by_cases hl : at_ + 1 + len ≤ nw
        · have k1 : decide ((nw : Int) - at_ ≤ len) = false := by simp; omega
          have HC := hide (begins1_any _ bl Af nf cf (placesOf pre) at_ len (hMark x) (hAge x) (hS1.get 0 rfl) (by omega))
          obtain ⟨f', hf', hps⟩ := parse_some (f := f) (len := len) hkl (by rw [HWL.out]; omega) (by rw [HGD.out]; exact HOK.out) (by rw [HGD.out]; exact HLEN.out) (by rw [HWL.out]; exact hl)
          have HPS := hide (show parse nw ws 0 = ((pre ++ [(at_, len)]) ++ (parse f' ws (at_ + 1 + len)).1, (parse f' ws (at_ + 1 + len)).2) by rw [HP.out, hps]; simp)
          have HF := hide hf'
          clear hS hps hf'
          go_wp2_with fail
          refine HC.out.mono ?_
          rintro e w3 ⟨Af', cf', rfl, hP⟩
          have hS3 := hS1.call 0 rfl hP
          obtain ⟨q1, q2, q3, q4⟩ := hS3.rules 1 (g := w1.heap.size) (t := 23) rfl
          have q5 : w3.cell? ⟨w1.heap.size, 0, none⟩ = some (.int .i64 len) := by rw [q1]; rfl
          have hS4 := hS3.sub (l := [allI (BgItems bl Af' (nf + 1) cf' (placesOf pre ++ [(at_ : Int)]))]) (by simp)
          clear q1 hS1 hS3 hP HC
          go_wp2_with fail
          go_roundw
          case rel =>
            refine ⟨at_ + 1 + len, f', pre ++ [(at_, len)], Af', nf + 1, cf', by omega, by go_num, HPS.out, ?_, by omega, ?_⟩
            · have h9 := HF.out; rw [HWL.out] at h9; exact h9
            · rw [placesOf_snoc]
              exact hS4
          case measure => simp [intOf]; omega
        · have k1 : decide ((nw : Int) - at_ ≤ len) = true := by simp; omega
          have hpn := parse_none (f := f) hkl (by rw [HWL.out]; omega) (by rw [HGD.out, HLEN.out, HWL.out]; omega)
          have HR := hide (show (parse nw ws 0).2 = false by rw [HP.out, hpn])
          have hS2 := hS1.sub (l := [allI (BgItems bl Af nf cf (placesOf pre))]) (by simp)
          clear hS hpn
          go_wp2_with fail
          go_ret
          exact ⟨pre, Af, nf, cf, by rw [HR.out] <;> rfl, (fun h => by rw [HR.out] at h; cases h), by omega, hS2⟩
      · have C1 := hide (fun w' => unheadP_bad w' x b1 b2 hok)
        have hpn := parse_none (f := f) hkl (by rw [HWL.out]; omega) (by rw [HGD.out]; exact fun h => hok h.1)
        have HR := hide (show (parse nw ws 0).2 = false by rw [HP.out, hpn])
        clear hok hpn
        go_wp2_with fail
        refine (C1.out _).mono ?_
        rintro e w1 ⟨rfl, hb1⟩
        have hS1 := (hS.below hb1)
        go_wp2_with fail
        go_ret
        exact ⟨pre, Af, nf, cf, by rw [HR.out] <;> rfl, (fun h => by rw [HR.out] at h; cases h), by omega, hS1.alloc _⟩
    · obtain rfl : at_ = nw := by omega
      have hpe : parse f ws at_ = ([], true) := by have := parse_end (f := f) (ws := ws); rw [HWL.out] at this; exact this
      have HR := hide (show parse at_ ws 0 = (pre, true) by rw [HP.out, hpe]; simp)
      clear hpe
      go_wp2_with fail
      go_ret
      exact ⟨pre, Af, nf, cf, by rw [HR.out] <;> rfl, (fun _ => by rw [HR.out]), by omega, hS⟩

theorem perm_b3 {α : Type} (a b c : α) : [a, b, c].Perm [a, c, b] := .cons _ (.swap _ _ _)
set_option maxRecDepth 100000 in
set_option maxHeartbeats 4000000 in
theorem begins_any (w : World) (AW AR : Option Addr) (nW cW nR cR : Nat) (ws : List Int) (hW : WsIn w AW nW cW ws) (hn : nW ≤ 256) (hok : (parse nW ws 0).2 = true) :
    Calls Try.prog 76 #[.agg #[.slice AW nW cW, .slice AR nR cR]] w fun e w' => ∃ A n c, e = .returned (.slice A n c) ∧ n ≤ 256 ∧ Sep No w w' [rowI 3 1 A n c (ints (placesOf (parse nW ws 0).1))] := by
  have hS0 := (((Sep.nil No w).blkAt 55 #[.slice AW nW cW, .slice AR nR cR] rfl).blkAt 40 #[.slice none 0 0] (g := w.heap.size + 1) (by simp)).nilRow0 3 1
  obtain ⟨a1, a2, a3, a4⟩ := hS0.rules 1 (g := w.heap.size) (t := 55) rfl
  have hS1 := hS0.perm (perm_b3 _ _ _)
  have hS2 : Sep No w _ (allI (BgItems (w.heap.size + 1) none 0 0 []) :: [blkI w.heap.size 55 #[.slice AW nW cW, .slice AR nR cR]]) := Sep.join hS1
  have C := hide (walkBg_any _ (w.heap.size + 1) AW nW cW ws (hS2.get 0 rfl)
    (((hW.rd.more (D' := fun g => g < w.heap.size) (fun k hk _ => hk)).below hS2.below_).more (fun g _ hg hf => by
      rcases hS2.lo 0 rfl g hf with h | h
      · exact h
      · omega)) hn hW.wf)
  rw [hok] at C
  have HS2 := hide hS2
  clear a1 a2 a3 a4 hS0 hS1 hS2
  go_enter Try.func76, Try.ntmps76
  go_wp2_with fail
  refine C.out.mono ?_
  rintro e w1 ⟨pre, A, n, c, rfl, hpre, hn2, hQ⟩
  have hS3 := HS2.out.call 0 rfl hQ
  have hS4 := Sep.split hS3
  obtain ⟨b1, b2, b3, b4⟩ := hS4.rules 1 (g := w.heap.size + 1) (t := 40) rfl
  have b5 : w1.cell? ⟨w.heap.size + 1, 0, none⟩ = some (.slice A n c) := by rw [b1]; rfl
  have hS5 := hS4.sub (l := [rowI 3 1 A n c (ints (placesOf pre))]) (by simp [BgItems])
  rw [hpre (by first | trivial | rfl)] at hS5
  clear b1 hS3 hS4 hQ hpre C HS2
  go_wp2_with fail
  go_ret
  exact ⟨A, n, c, rfl, hn2, hS5⟩

theorem acheck_zero {nW nR : Nat} {ws rs : List Int} (h : acheck nW nR ws rs = 0) : nW ≤ 256 ∧ nR ≤ 8 ∧ (parse nW ws 0).2 = true ∧ (rs ++ fieldsOf ws (parse nW ws 0).1).any (badWord (parse nW ws 0).1) = false := by
  unfold acheck at h
  split at h
  · omega
  rename_i h1
  split at h
  · omega
  rename_i h2
  split at h
  · omega
  rename_i h3
  exact ⟨by omega, by omega, by simpa using h2, by simpa using h3⟩

set_option maxRecDepth 100000 in
set_option maxHeartbeats 4000000 in
theorem starts_any (w : World) (AW AR : Option Addr) (nW cW nR cR : Nat) (ws rs : List Int) (hW : WsIn w AW nW cW ws) (hR : WsIn w AR nR cR rs) :
    Calls Try.prog 37 #[.agg #[.slice AW nW cW, .slice AR nR cR]] w fun e w' => ∃ A n c, e = .returned (.tuple #[.slice A n c, .int .i64 (acheck nW nR ws rs)]) ∧ n ≤ 256 ∧
      Sep No w w' [rowI 3 1 A n c (ints (if acheck nW nR ws rs = 0 then placesOf (parse nW ws 0).1 else []))] := by
  have hB0 : Below w.heap.size w (w.alloc (.cells #[.slice AW nW cW, .slice AR nR cR] 55)) := (Below.refl _ w).alloc (Nat.le_refl _) _
  have bA := Blk.new w 55 #[.slice AW nW cW, .slice AR nR cR]
  have C1 := hide (arenaCheck_any _ AW AR nW cW nR cR ws rs (hW.below hB0) (hR.below hB0))
  have HB0 := hide hB0
  have BA := hide bA
  clear hB0 bA
  by_cases h : acheck nW nR ws rs = 0
  · obtain ⟨h1, h2, h3, h4⟩ := acheck_zero h
    rw [h] at C1
    have C2 := hide (fun w' (hb : Below w.heap.size w w') => begins_any w' AW AR nW cW nR cR ws (hW.below hb) h1 h3)
    rw [h]
    clear h h3 h4
    go_enter Try.func37, Try.ntmps37
    go_wp2_with fail
    refine C1.out.mono ?_
    rintro e w1 ⟨rfl, hb1⟩
    have hB1 := HB0.out.trans (hb1.mono (by simp))
    obtain ⟨a1, a2, a3⟩ := (BA.out.below_ hb1).rules
    go_wp2_with fail
    refine (C2.out _ hB1).mono ?_
    rintro e w2 ⟨A, n, c, rfl, hn, hS⟩
    have hS2 := ((Sep.nil No w).below (w := w) hB1).snocNew hS.below_ _ (hS.get 0 rfl) (fun g hg => (hS.lo 0 rfl g hg).resolve_left (fun h => h))
    go_wp2_with fail
    refine bodyPost_ret (v := .tuple #[.slice A n c, .int .i64 0]) (by simp [results, Try.results37, go_sem]) rfl ⟨A, n, c, rfl, hn, ?_⟩
    exact hS2
  · obtain ⟨x, hx⟩ : ∃ x, acheck nW nR ws rs = x := ⟨_, rfl⟩
    rw [hx] at C1 h ⊢
    have y1 : (x != 0) = true := by rw [bne_iff_ne]; exact h
    have HX := hide h
    clear h hx
    go_enter Try.func37, Try.ntmps37
    go_wp2_with fail
    refine C1.out.mono ?_
    rintro e w1 ⟨rfl, hb1⟩
    have hB1 := HB0.out.trans (hb1.mono (by simp))
    go_wp2_with fail
    refine bodyPost_ret (v := .tuple #[.slice none 0 0, .int .i64 x]) (by simp [results, Try.results37, go_sem]) rfl ⟨none, 0, 0, rfl, by omega, ?_⟩
    exact ((Sep.nil No w).below (w := w) hB1).nilRow 3 1
end Go.Proofs.Ytpbafmdebflbpaa

namespace Go.Proofs.Ytpbafmdebflbpaa
open Go.RowKit

set_option maxHeartbeats 400000 in
theorem cisnan (w : World) (a : Int) : Calls Try.prog 125 #[.int .i64 a] w fun e w' => e = .returned (.bool false) ∧ w' = w := by
  go_enter Try.func125, Try.ntmps125
  go_wp2_with fail
  go_ret
  exact ⟨by simp, rfl⟩
set_option maxHeartbeats 400000 in
theorem less_any (w : World) (a b : Int) : Calls Try.prog 108 #[.int .i64 a, .int .i64 b] w fun e w' => e = .returned (.bool (decide (a < b))) ∧ w' = w := by
  go_enter Try.func108, Try.ntmps108
  go_wp2_with fail
  refine (cisnan w a).mono ?_
  rintro e w1 ⟨rfl, rfl⟩
  go_wp2_with fail
  go_ret
  exact ⟨rfl, rfl⟩

set_option maxRecDepth 100000 in
set_option maxHeartbeats 4000000 in
theorem bsearch_any (w : World) (A : Option Addr) (n c idx : Nat) (xs : List Int) (x : Int) (hn : n ≤ 1000) (h : Rd w (fun _ => True) 1 A n (ints xs)) (hidx : idx < n) (hx : xs[idx]? = some x) (hm : ∀ (i j : Nat) (a b : Int), i < j → xs[i]? = some a → xs[j]? = some b → a < b) :
    Calls Try.prog 78 #[.slice A n c, .int .i64 x] w fun e w' => e = .returned (.tuple #[.int .i64 idx, .bool true]) ∧ w' = w := by
  have HL := hide (show xs.length = n by have := h.1; simpa using this)
  have HX := hide hx
  have HM := hide hm
  obtain ⟨ad, hA, _, _, hc⟩ := h.2 (by omega)
  subst hA
  clear hx hm
  go_enter Try.func78, Try.ntmps78
  go_wp2_with fail
  go_loopw [7, 8] (fun s7 s8 wr => ∃ lo hi : Nat, lo ≤ idx ∧ idx ≤ hi ∧ hi ≤ n ∧ s7 = .int .i64 lo ∧ s8 = .int .i64 hi ∧ wr = w) (fun s7 s8 _ => (intOf s8).toNat - (intOf s7).toNat)
  case atStart => exact ⟨0, n, by omega, by omega, by omega, rfl, rfl, rfl⟩
  case round =>
    obtain ⟨lo, hi, h1, h2, h3, rfl, rfl, rfl⟩ := hrel
    by_cases hlt : lo < hi
    · have hb1 : (lo : Int) + hi ≤ 2000 := by omega
      have hml : (lo + hi) / 2 < xs.length := by rw [HL.out]; omega
      have e0 := hc ((lo + hi) / 2) (.int .i64 xs[(lo + hi) / 2]) (by simp [ints, List.getElem?_eq_getElem hml])
      have hy1 : xs[(lo + hi) / 2]? = some xs[(lo + hi) / 2] := List.getElem?_eq_getElem hml
      obtain ⟨y, hy⟩ : ∃ y, xs[(lo + hi) / 2] = y := ⟨_, rfl⟩
      rw [hy] at e0 hy1
      have HY := hide hy1
      clear hy hy1 hml hc
      by_cases hlt2 : y < x
      · have C := less_any wr y x
        rw [show decide (y < x) = true by simp [hlt2]] at C
        have C1 := hide C
        have hlx : (lo + hi) / 2 < idx := by
          rcases Nat.lt_trichotomy ((lo + hi) / 2) idx with h5 | h5 | h5
          · exact h5
          · exfalso
            have h6 := HX.out
            rw [← h5, HY.out] at h6
            injection h6 with h6
            omega
          · have := HM.out _ _ _ _ h5 HX.out HY.out
            omega
        have HLX := hide hlx
        clear C hlt2 hlx
        go_wp2_with fail
        refine C1.out.mono ?_
        rintro e w1 ⟨rfl, rfl⟩
        go_wp2_with fail
        have hlx := HLX.out
        go_roundw
        case rel => exact ⟨(lo + hi) / 2 + 1, hi, by omega, by omega, by omega, by first | go_num | (congr 1; omega), rfl, by trivial⟩
        case measure => simp [intOf]; omega
      · have C := less_any wr y x
        rw [show decide (y < x) = false by simp [hlt2]] at C
        have C1 := hide C
        have hlx : idx ≤ (lo + hi) / 2 := by
          rcases Nat.lt_or_ge ((lo + hi) / 2) idx with h5 | h5
          · have := HM.out _ _ _ _ h5 HY.out HX.out
            omega
          · exact h5
        have HLX := hide hlx
        clear C hlt2 hlx
        go_wp2_with fail
        refine C1.out.mono ?_
        rintro e w1 ⟨rfl, rfl⟩
        go_wp2_with fail
        have hlx := HLX.out
        go_roundw
        case rel => exact ⟨lo, (lo + hi) / 2, by omega, by omega, by omega, rfl, by first | go_num | (congr 1; omega), by trivial⟩
        case measure => simp [intOf]; omega
    · obtain rfl : lo = idx := by omega
      obtain rfl : hi = lo := by omega
      have e0 := hc hi (.int .i64 x) (by simp [ints, HX.out])
      clear hc
      go_wp2_with fail
      refine bodyPost_ret (v := .tuple #[.int .i64 hi, .bool true]) (by simp [results, Try.results78, go_sem]) rfl ⟨rfl, rfl⟩

set_option maxHeartbeats 4000000 in
theorem place_any (w : World) (A : Option Addr) (n c idx : Nat) (xs : List Int) (x : Int) (hn : n ≤ 1000) (h : Rd w (fun _ => True) 1 A n (ints xs)) (hidx : idx < n) (hx : xs[idx]? = some x) (hm : ∀ (i j : Nat) (a b : Int), i < j → xs[i]? = some a → xs[j]? = some b → a < b) :
    Calls Try.prog 110 #[.slice A n c, .int .i64 x] w fun e w' => e = .returned (.int .i64 idx) ∧ w' = w := by
  have HL := hide (show xs.length = n by have := h.1; simpa using this)
  have HX := hide hx
  have HM := hide hm
  obtain ⟨ad, hA, _, _, hc⟩ := h.2 (by omega)
  subst hA
  clear hx hm
  go_enter Try.func110, Try.ntmps110
  go_wp2_with fail
  go_loopw [5] (fun i wr => ∃ k : Nat, k ≤ idx ∧ i = .int .i64 k ∧ wr = w) (fun i _ => n - (intOf i).toNat)
  case atStart => exact ⟨0, by omega, rfl, rfl⟩
  case round =>
    obtain ⟨k, hk, rfl, rfl⟩ := hrel
    have hkn : k < n := by omega
    by_cases hlt : k < idx
    · have hkl : k < xs.length := by rw [HL.out]; omega
      have e0 := hc k (.int .i64 xs[k]) (by simp [ints, List.getElem?_eq_getElem hkl])
      have hlx := HM.out _ _ _ _ hlt (List.getElem?_eq_getElem hkl) HX.out
      obtain ⟨y, hy⟩ : ∃ y, xs[k] = y := ⟨_, rfl⟩
      rw [hy] at e0 hlx
      have k1 : (y == x) = false := by rw [beq_eq_false_iff_ne]; omega
      clear hy hc hlx
      go_wp2_with fail
      go_roundw
      case rel => exact ⟨k + 1, by omega, by go_num, by trivial⟩
      case measure => simp [intOf]; omega
    · obtain rfl : k = idx := by omega
      have e0 := hc k (.int .i64 x) (by simp [ints, HX.out])
      clear hc
      go_wp2_with fail
      go_ret
      first | exact ⟨rfl, rfl⟩ | exact ⟨rfl, trivial⟩ | exact rfl
end Go.Proofs.Ytpbafmdebflbpaa
