/- epoch: the reference's Epochs. -/
import Derived.Test.YtpbafmdebflbpaaEpI
namespace Go.Proofs.Ytpbafmdebflbpaa
open Go.RowKit

def ERItems (w : World) (N : Nat) (ths : List Int) (waits freed : List (Int × Int)) (codes : List Int) (q : Nat) (Aw : Option Addr) (nw cw : Nat) (As : Option Addr) (cs : Nat) (Ac : Option Addr) (cc : Nat) (Af : Option Addr) (nf cf : Nat) : List Item :=
  [blkI w.heap.size 42 #[.slice none 0 0, .slice none 0 0, .slice none 0 0], rowI 3 1 (some ⟨w.heap.size + 1, 0, none⟩) N N (ints (ths.map (· + 1))), rowI 3 1 Aw nw cw (ints (waits.map Prod.fst)), rowI 3 1 As nw cs (ints (waits.map Prod.snd)), rowI 25 1 Ac q cc (ints codes), rowI 105 2 Af nf cf (fates freed)]

theorem Rd.cell1 {w : World} {D : Nat → Prop} {n k : Nat} {ad : Addr} {xs : List Value} (h : Rd w D 1 (some ad) n xs) (hk : k < n) {u : Value} (hu : xs[k]? = some u) : w.cell? (ad.add k) = some u := by
  obtain ⟨ad', e, _, _, hc⟩ := h.2 (by omega)
  injection e with e
  subst e
  exact hc k u hu
theorem perm_r6 {α : Type} (a b c d e f : α) : [a, b, c, d, e, f].Perm [c, d, a, b, e, f] := by
  classical
  rw [List.perm_iff_count]
  intro x
  simp only [List.count_cons, List.count_nil]
  omega
theorem ekept_snoc (ep : Int) (l : List (Int × Int)) (x : Int × Int) : ekept ep (l ++ [x]) = if eold ep x = true then ekept ep l else ekept ep l ++ [x] := by
  unfold ekept
  rw [List.filter_append]
  by_cases h : eold ep x = true
  · rw [if_pos h]; simp [h]
  · rw [if_neg h]; simp [h]
theorem egone_snoc (ep i : Int) (l : List (Int × Int)) (x : Int × Int) : egone ep i (l ++ [x]) = if eold ep x = true then egone ep i l ++ [(x.1, i)] else egone ep i l := by
  unfold egone
  rw [List.filter_append]
  by_cases h : eold ep x = true
  · rw [if_pos h]; simp [h]
  · rw [if_neg h]; simp [h]

set_option maxRecDepth 100000 in
set_option linter.unusedSimpArgs false in
set_option maxHeartbeats 80000000 in
theorem epref_ok (w : World) (N : Nat) (A : Option Addr) (n c : Nat) (l : List Deed) (h1 : 1 ≤ N) (h2 : N ≤ 4) (h3 : n ≤ 100) (hl : Rd w (fun _ => True) 3 A n (deeds l)) :
    Calls Try.prog 35 #[.int .i64 N, .slice A n c] w fun e w' => ∃ v, e = .returned v ∧ Below w.heap.size w w' ∧
      FreeingRd w w' v (EM.at (EM.start N) l n).1 (EM.at (EM.start N) l n).2.freed ((EM.at (EM.start N) l n).2.waits.map Prod.fst) := by
  go_enter Try.func35, Try.ntmps35
  have hS0 := (Sep.nil No w).blkAt 42 #[.slice none 0 0, .slice none 0 0, .slice none 0 0] rfl
  go_wp2_with (first
    | (at_make
       refine wpList_make rfl (.tmp 19) (.tmp 19) 40 rfl hS0 Try.underlying40 zInt (by omega) .i64 .i64 N rfl rfl (by omega) ?_
       intro w1 hS1 hb1))
  have hS2 : Sep No w w1 (ERItems w N (List.replicate N (-1)) [] [] [] 0 none 0 0 none 0 none 0 none 0 0) := by
    rw [madeInts] at hS1
    rw [show (w.alloc (.cells #[.slice none 0 0, .slice none 0 0, .slice none 0 0] 42)).heap.size = w.heap.size + 1 from by simp] at hS1
    have e : ints ((List.replicate N (-1)).map (· + 1)) = ints (List.replicate N 0) := by simp
    unfold ERItems
    rw [e]
    exact (((hS1.nilRow 3 1).nilRow 3 1).nilRow 25 1).nilRow 105 2
  have HS2 := hide hS2
  clear hS0 hS1 hS2 hb1
  go_loopw [6, 7, 8, 9, 10, 23] (fun s6 s7 s8 s9 s10 i wr => ∃ (q : Nat) (m : EM) (Aw : Option Addr) (nw cw : Nat) (As : Option Addr) (cs : Nat) (Ac : Option Addr) (cc : Nat) (Af : Option Addr) (nf cf : Nat), q ≤ n ∧ i = .int .i64 q ∧ s6 = .int .i64 m.ep ∧ s7 = .slice Aw nw cw ∧ s8 = .slice As nw cs ∧ s9 = .slice Ac q cc ∧ s10 = .slice Af nf cf ∧
    Hid (m = (EM.at (EM.start N) l q).2) ∧ Sep No w wr (ERItems w N m.ths m.waits m.freed (EM.at (EM.start N) l q).1 q Aw nw cw As cs Ac cc Af nf cf)) (fun _ _ _ _ _ i _ => n - (intOf i).toNat)
  case atStart => exact ⟨0, EM.start N, none, 0, 0, none, 0, none, 0, none, 0, 0, by omega, rfl, rfl, rfl, rfl, rfl, rfl, rfl, HS2.out⟩
  case round =>
    clear HS2
    obtain ⟨q, m, Aw, nw, cw, As, cs, Ac, cc, Af, nf, cf, hq, rfl, rfl, rfl, rfl, rfl, rfl, HM, hS⟩ := hrel
    have hok := (EM.at_ok N l q).1
    rw [← HM.out] at hok
    have hlen : l.length = n := by have := hl.1; rw [deeds_length] at this; omega
    have hwl : m.waits.length = nw := by have := (hS.rd_ 2 rfl).1; simpa using this
    have hfl : m.freed.length = nf := by have := (hS.rd_ 5 rfl).1; rw [fates_length] at this; omega
    have lall : nf + nw ≤ q := by have := hok.all; omega
    have le0 := hok.ep0
    have leq := hok.epk
    have HL := hide hlen
    have HWL := hide hwl
    have HFL := hide hfl
    have HOK := hide hok
    clear hlen hok hwl hfl
    by_cases hlt : q < n
    · obtain ⟨ad, hA, _, had, hc, hd⟩ := (hl.below hS.below_).atN hlt
      have hql : q < l.length := by rw [HL.out]; exact hlt
      obtain ⟨f0, f1, f2⟩ := deeds_at l q hql
      have e0 := hc _ f0
      have e1 := hd 0 _ f1
      have e2 := hd 1 _ f2
      have hgd : l.getD q (0, 0, 0) = l[q] := by rw [List.getD_eq_getElem?_getD, List.getElem?_eq_getElem hql]; rfl
      obtain ⟨dd, hdd⟩ : ∃ dd, l[q] = dd := ⟨_, rfl⟩
      rw [hdd] at e0 e1 e2 hgd
      clear hc hd f0 f1 f2 hdd
      obtain ⟨k, who, it⟩ := dd
      dsimp only at e0 e1 e2
      subst hA
      have hat : ∀ (x : Int) (m' : EM), m.does k who it q = (x, m') → EM.at (EM.start N) l (q + 1) = ((EM.at (EM.start N) l q).1 ++ [x], m') := fun x m' h => by
        rw [HM.out] at h
        simp only [EM.at, hgd]
        rw [h]
      have HT := hide hat
      clear hat hgd
      by_cases hk : k = 4
      · subst hk
        go_wp2_with fail
        have HS3 := hide (hS.alloc (.cells #[.int .i64 4, .int .i64 who, .int .i64 it] 102))
        clear hS
        go_loopw [13, 51] (fun s13 i w2 => ∃ (j : Nat), j ≤ N ∧ i = .int .i64 j ∧ s13 = .int .i64 (if (m.ths.take j).any (late m.ep) = true then 8 else 0) ∧ Sep No w w2 (ERItems w N m.ths m.waits m.freed (EM.at (EM.start N) l q).1 q Aw nw cw As cs Ac cc Af nf cf)) (fun _ i _ => N - (intOf i).toNat)
        case atStart => exact ⟨0, by omega, rfl, by simp, HS3.out⟩
        case round =>
          clear HS3
          obtain ⟨j, hj, rfl, rfl, hS⟩ := hrel
          by_cases hjN : j < N
          · have hjl : j < m.ths.length := by rw [HOK.out.len]; exact hjN
            have hG : wr.ownsRow 0 3 1 (.slice (some ⟨w.heap.size + 1, 0, none⟩) N N) N (ints (m.ths.map (· + 1))) := hS.get 1 rfl
            have hcell : wr.cell? ⟨w.heap.size + 1, j, none⟩ = some (.int .i64 (m.ths[j] + 1)) := by
              rw [hG.cellAt j (by omega)]
              simp [ints, List.getElem?_eq_getElem hjl]
            have hx1 := HOK.out.lo _ (List.getElem_mem hjl)
            have hx2 := HOK.out.hi _ (List.getElem_mem hjl)
            have HX := hide (List.take_succ_eq_append_getElem hjl)
            obtain ⟨x, hx⟩ : ∃ x, m.ths[j] = x := ⟨_, rfl⟩
            rw [hx] at hcell hx1 hx2 HX
            have HS3 := hide hS
            clear hx hG hS
            cases ha : (m.ths.take j).any (late m.ep) with
            | true =>
              have HA : Hid ((m.ths.take (j + 1)).any (late m.ep) = true) := by show _ = _; rw [HX.out, List.any_append, ha]; rfl
              rw [if_pos rfl]
              clear ha
              by_cases hz : x = -1
              · have t1 : decide (0 < x + 1) = false := by simp; omega
                clear hz
                go_wp2_with fail
                go_roundw
                case rel => exact ⟨j + 1, by omega, by go_num, by rw [HA.out]; rfl, HS3.out⟩
                case measure => simp [intOf]; omega
              · have t1 : decide (0 < x + 1) = true := by simp; omega
                clear hz
                by_cases hz : x = m.ep
                · have t2 : (x + 1 != m.ep + 1) = false := by simp [hz]
                  clear hz
                  go_wp2_with fail
                  go_roundw
                  case rel => exact ⟨j + 1, by omega, by go_num, by rw [HA.out]; rfl, HS3.out⟩
                  case measure => simp [intOf]; omega
                · have t2 : (x + 1 != m.ep + 1) = true := by simp; omega
                  clear hz
                  go_wp2_with fail
                  go_roundw
                  case rel => exact ⟨j + 1, by omega, by go_num, by rw [HA.out]; rfl, HS3.out⟩
                  case measure => simp [intOf]; omega
            | false =>
              rw [if_neg (by simp)]
              by_cases hz : x = -1
              · have HA : Hid ((m.ths.take (j + 1)).any (late m.ep) = false) := by show _ = _; rw [HX.out, List.any_append, ha]; simp [late, hz]
                have t1 : decide (0 < x + 1) = false := by simp; omega
                clear hz ha
                go_wp2_with fail
                go_roundw
                case rel => exact ⟨j + 1, by omega, by go_num, by rw [HA.out]; rfl, HS3.out⟩
                case measure => simp [intOf]; omega
              · have t1 : decide (0 < x + 1) = true := by simp; omega
                by_cases hy : x = m.ep
                · have HA : Hid ((m.ths.take (j + 1)).any (late m.ep) = false) := by show _ = _; rw [HX.out, List.any_append, ha]; simp [late, hy]
                  have t2 : (x + 1 != m.ep + 1) = false := by simp [hy]
                  clear hz hy ha
                  go_wp2_with fail
                  go_roundw
                  case rel => exact ⟨j + 1, by omega, by go_num, by rw [HA.out]; rfl, HS3.out⟩
                  case measure => simp [intOf]; omega
                · have HA : Hid ((m.ths.take (j + 1)).any (late m.ep) = true) := by show _ = _; rw [HX.out, List.any_append, ha]; simp [late, hy, hz]
                  have t2 : (x + 1 != m.ep + 1) = true := by simp; omega
                  clear hz hy ha
                  go_wp2_with fail
                  go_roundw
                  case rel => exact ⟨j + 1, by omega, by go_num, by rw [HA.out]; rfl, HS3.out⟩
                  case measure => simp [intOf]; omega
          · obtain rfl : j = N := by omega
            rw [show m.ths.take j = m.ths from List.take_of_length_le (by rw [HOK.out.len]; omega)]
            cases ha : m.ths.any (late m.ep) with
            | true =>
              rw [if_pos rfl]
              have HD := hide (HT.out (8) (m) (by
                unfold EM.does EM.next; rw [if_pos rfl, if_pos ha]))
              clear HT
              clear ha
              go_wp2_with (first
                | (at_builtin
                   refine wpList_app1 (cs := #[.int .i64 8]) rfl (.tmp 153) (.tmp 155) 38 rfl sErr hS 4 (n := q) rfl rfl rfl (by simp) rfl rfl (by omega) ?_
                   intro A9 c9 w9 hS9 hC9))
              go_roundw
              case rel =>
                refine ⟨q + 1, m, Aw, nw, cw, As, cs, A9, c9, Af, nf, cf, by omega, by go_num, rfl, rfl, rfl, rfl, rfl, ?_, ?_⟩
                · show _ = _
                  rw [HD.out]
                · rw [HD.out]
                  unfold ERItems
                  simp only [ints_app, List.map_append, List.map_cons, List.map_nil, efates_app]
                  exact hS9
              case measure => simp [intOf]; omega
            | false =>
              rw [if_neg (by simp)]
              have HD := hide (HT.out (0) (⟨m.ep + 1, m.ths, ekept (m.ep + 1) m.waits, m.freed ++ egone (m.ep + 1) q m.waits⟩) (by
                unfold EM.does EM.next; rw [if_pos rfl, if_neg (by rw [ha]; simp)]))
              clear HT
              clear ha
              go_wp2_with fail
              have HS3 := hide (((hS.nilRow0 3 1).nilRow0 3 1))
              have hnw : nw ≤ 100 := by omega
              clear hS HFL lall
              go_loopw [10, 16, 17, 18] (fun s10 s16 s17 s18 w3 => ∃ (p : Nat) (Af : Option Addr) (nf cf : Nat) (Al : Option Addr) (nl cl : Nat) (Ao : Option Addr) (co : Nat), p ≤ nw ∧ s18 = .int .i64 p ∧ s10 = .slice Af nf cf ∧ s16 = .slice Al nl cl ∧ s17 = .slice Ao nl co ∧
                Sep No w w3 (rowI 3 1 Al nl cl (ints ((ekept (m.ep + 1) (m.waits.take p)).map Prod.fst)) :: rowI 3 1 Ao nl co (ints ((ekept (m.ep + 1) (m.waits.take p)).map Prod.snd)) :: ERItems w j m.ths m.waits (m.freed ++ egone (m.ep + 1) q (m.waits.take p)) (EM.at (EM.start j) l q).1 q Aw nw cw As cs Ac cc Af nf cf)) (fun _ _ _ i _ => nw - (intOf i).toNat)
              case atStart => exact ⟨0, Af, nf, cf, none, 0, 0, none, 0, by omega, rfl, rfl, rfl, rfl, by simpa [ekept, egone] using HS3.out⟩
              case round =>
                clear HS3
                obtain ⟨p, Af, nf, cf, Al, nl, cl, Ao, co, hp, rfl, rfl, rfl, rfl, hS⟩ := hrel
                have hnl : (ekept (m.ep + 1) (m.waits.take p)).length = nl := by have := (hS.rd_ 0 rfl).1; simpa using this
                have hnf : (m.freed ++ egone (m.ep + 1) q (m.waits.take p)).length = nf := by have := (hS.rd_ 7 rfl).1; rw [fates_length] at this; omega
                have hsum := ekept_egone (m.ep + 1) q (m.waits.take p)
                have htk : (m.waits.take p).length ≤ p := by simp; omega
                have hall := HOK.out.all
                rw [List.length_append] at hnf
                have hnl2 : nl ≤ 100 := by have := HWL.out; omega
                have hnf2 : nf ≤ 200 := by have := HWL.out; omega
                clear hnl hnf hsum htk hall
                by_cases hlp : p < nw
                · have hpl : p < m.waits.length := by rw [HWL.out]; exact hlp
                  obtain ⟨ad2, hA2, _, had2, hc2⟩ := (hS.rd_ 4 rfl).at_ hlp
                  obtain ⟨ad3, hA3, _, had3, hc3⟩ := (hS.rd_ 5 rfl).at_ hlp
                  have e0 := hc2 (.int .i64 m.waits[p].1) (by simp [ints, List.getElem?_eq_getElem hpl])
                  have e1 := hc3 (.int .i64 m.waits[p].2) (by simp [ints, List.getElem?_eq_getElem hpl])
                  have e2 : (ints (m.waits.map Prod.snd))[p]? = some (.int .i64 m.waits[p].2) := by simp [ints, List.getElem?_eq_getElem hpl]
                  have hsn := HOK.out.since _ (List.getElem_mem hpl)
                  have HT := hide (List.take_succ_eq_append_getElem hpl)
                  obtain ⟨xx, hxx⟩ : ∃ xx, m.waits[p] = xx := ⟨_, rfl⟩
                  rw [hxx] at e0 e1 e2 HT hsn
                  obtain ⟨x, y⟩ := xx
                  dsimp only at e0 e1 e2 hsn
                  have E2 := hide e2
                  obtain ⟨hy1, hy2⟩ := hsn
                  subst hA2 hA3
                  clear hc2 hc3 hxx e2
                  by_cases ho : y + 2 ≤ m.ep + 1
                  · have hx' : decide (y + 2 ≤ m.ep + 1) = true := by simp [ho]
                    have HO := hide (show eold (m.ep + 1) (x, y) = true from by unfold eold; simp; omega)
                    clear ho
                    go_wp2_with (first
                      | (at_builtin
                         refine wpList_app1 (cs := #[.int .i64 x, .int .i64 q]) rfl (.tmp 81) (.tmp 88) 39 rfl sFate hS 7 (n := nf) rfl rfl rfl (by simp) rfl rfl (by omega) ?_
                         intro A8 c8 w8 hS8 hC8))
                    go_roundw
                    case rel =>
                      refine ⟨p + 1, A8, nf + 1, c8, Al, nl, cl, Ao, co, by omega, by go_num, rfl, rfl, rfl, ?_⟩
                      rw [HT.out, ekept_snoc, egone_snoc, if_pos HO.out, if_pos HO.out, ← List.append_assoc, ERItems, efates_app]
                      exact hS8
                    case measure => simp [intOf]; omega
                  · have hx' : decide (y + 2 ≤ m.ep + 1) = false := by simp [ho]
                    have HO := hide (show ¬ eold (m.ep + 1) (x, y) = true from by unfold eold; simp; omega)
                    clear ho
                    go_wp2_with (first
                      | (at_builtin
                         refine wpList_app1 (cs := #[.int .i64 x]) rfl (.tmp 90) (.tmp 95) 40 rfl sInt hS 0 (n := nl) rfl rfl rfl (by simp) rfl rfl (by omega) ?_
                         intro A8 c8 w8 hS8 hC8
                         (have e8 := (hS8.rd_ 5 rfl).cell1 hlp E2.out))
                      | (at_builtin
                         refine wpList_app1 (cs := #[.int .i64 y]) rfl (.tmp 97) (.tmp 102) 40 rfl sInt hS8 1 (n := nl) rfl rfl rfl (by simp) rfl rfl (by omega) ?_
                         intro A7 c7 w7 hS7 hC7))
                    go_roundw
                    case rel =>
                      refine ⟨p + 1, Af, nf, cf, A8, nl + 1, c8, A7, c7, by omega, by go_num, rfl, rfl, rfl, ?_⟩
                      rw [HT.out, ekept_snoc, egone_snoc, if_neg HO.out, if_neg HO.out, List.map_append, List.map_append, List.map_cons, List.map_nil, List.map_cons, List.map_nil, ints_app, ints_app]
                      exact hS7
                    case measure => simp [intOf]; omega
                · obtain rfl : p = nw := by omega
                  rw [show m.waits.take p = m.waits from List.take_of_length_le (by rw [HWL.out]; omega)] at hS
                  go_wp2_with (first
                    | (at_builtin
                       refine wpList_app1 (cs := #[.int .i64 0]) rfl (.tmp 153) (.tmp 155) 38 rfl sErr hS 6 (n := q) rfl rfl rfl (by simp) rfl rfl (by omega) ?_
                       intro A9 c9 w9 hS9 hC9))
                  have hSf := (hS9.sub (l := [rowI 3 1 Al nl cl (ints ((ekept (m.ep + 1) m.waits).map Prod.fst)), rowI 3 1 Ao nl co (ints ((ekept (m.ep + 1) m.waits).map Prod.snd)), blkI w.heap.size 42 #[.slice none 0 0, .slice none 0 0, .slice none 0 0], rowI 3 1 (some ⟨w.heap.size + 1, 0, none⟩) j j (ints (m.ths.map (· + 1))), rowI 25 1 A9 (q + 1) c9 (ints (EM.at (EM.start j) l q).1 ++ [.int .i64 0]), rowI 105 2 Af nf cf (fates (m.freed ++ egone (m.ep + 1) q m.waits))]) (by simp [ERItems])).perm (perm_r6 _ _ _ _ _ _)
                  go_roundw
                  case rel =>
                    refine ⟨q + 1, ⟨m.ep + 1, m.ths, ekept (m.ep + 1) m.waits, m.freed ++ egone (m.ep + 1) q m.waits⟩, Al, nl, cl, Ao, co, A9, c9, Af, nf, cf, by omega, by go_num, rfl, rfl, rfl, rfl, rfl, ?_, ?_⟩
                    · show _ = _
                      rw [HD.out]
                    · rw [HD.out]
                      unfold ERItems
                      simp only [ints_app, List.map_append, List.map_cons, List.map_nil, efates_app]
                      exact hSf
                  case measure => simp [intOf]; omega
      by_cases hb : k < 1 ∨ 4 < k
      · have HD := hide (HT.out (5) (m) (by
          unfold EM.does; rw [if_neg hk, if_pos hb]))
        clear HT
        have k1 : (k != 1) = true := by simp; omega
        have k2 : (k != 2) = true := by simp; omega
        have k3 : (k != 3) = true := by simp; omega
        have k4 : (k != 4) = true := by simp; omega
        clear hk hb
        go_wp2_with (first
          | (at_builtin
             refine wpList_app1 (cs := #[.int .i64 5]) rfl (.tmp 153) (.tmp 155) 38 rfl sErr (hS.alloc _) 4 (n := q) rfl rfl rfl (by simp) rfl rfl (by omega) ?_
             intro A9 c9 w9 hS9 hC9))
        go_roundw
        case rel =>
          refine ⟨q + 1, m, Aw, nw, cw, As, cs, A9, c9, Af, nf, cf, by omega, by go_num, rfl, rfl, rfl, rfl, rfl, ?_, ?_⟩
          · show _ = _
            rw [HD.out]
          · rw [HD.out]
            unfold ERItems
            simp only [ints_app, List.map_append, List.map_cons, List.map_nil, efates_app]
            exact hS9
        case measure => simp [intOf]; omega
      by_cases hw0 : who < 0
      · have k4 : decide (who < 0) = true := by simp [hw0]
        have HD := hide (HT.out (2) (m) (by
          unfold EM.does; rw [if_neg hk, if_neg hb, if_pos (Or.inl hw0)]))
        clear HT
        clear hw0
        obtain rfl | rfl | rfl : k = 1 ∨ k = 2 ∨ k = 3 := by omega
        · clear hk hb
          go_wp2_with (first
            | (at_builtin
               refine wpList_app1 (cs := #[.int .i64 2]) rfl (.tmp 153) (.tmp 155) 38 rfl sErr (hS.alloc _) 4 (n := q) rfl rfl rfl (by simp) rfl rfl (by omega) ?_
               intro A9 c9 w9 hS9 hC9))
          go_roundw
          case rel =>
            refine ⟨q + 1, m, Aw, nw, cw, As, cs, A9, c9, Af, nf, cf, by omega, by go_num, rfl, rfl, rfl, rfl, rfl, ?_, ?_⟩
            · show _ = _
              rw [HD.out]
            · rw [HD.out]
              unfold ERItems
              simp only [ints_app, List.map_append, List.map_cons, List.map_nil, efates_app]
              exact hS9
          case measure => simp [intOf]; omega
        · clear hk hb
          go_wp2_with (first
            | (at_builtin
               refine wpList_app1 (cs := #[.int .i64 2]) rfl (.tmp 153) (.tmp 155) 38 rfl sErr (hS.alloc _) 4 (n := q) rfl rfl rfl (by simp) rfl rfl (by omega) ?_
               intro A9 c9 w9 hS9 hC9))
          go_roundw
          case rel =>
            refine ⟨q + 1, m, Aw, nw, cw, As, cs, A9, c9, Af, nf, cf, by omega, by go_num, rfl, rfl, rfl, rfl, rfl, ?_, ?_⟩
            · show _ = _
              rw [HD.out]
            · rw [HD.out]
              unfold ERItems
              simp only [ints_app, List.map_append, List.map_cons, List.map_nil, efates_app]
              exact hS9
          case measure => simp [intOf]; omega
        · clear hk hb
          go_wp2_with (first
            | (at_builtin
               refine wpList_app1 (cs := #[.int .i64 2]) rfl (.tmp 153) (.tmp 155) 38 rfl sErr (hS.alloc _) 4 (n := q) rfl rfl rfl (by simp) rfl rfl (by omega) ?_
               intro A9 c9 w9 hS9 hC9))
          go_roundw
          case rel =>
            refine ⟨q + 1, m, Aw, nw, cw, As, cs, A9, c9, Af, nf, cf, by omega, by go_num, rfl, rfl, rfl, rfl, rfl, ?_, ?_⟩
            · show _ = _
              rw [HD.out]
            · rw [HD.out]
              unfold ERItems
              simp only [ints_app, List.map_append, List.map_cons, List.map_nil, efates_app]
              exact hS9
          case measure => simp [intOf]; omega
      have k4 : decide (who < 0) = false := by simp [hw0]
      by_cases hwN : (N : Int) ≤ who
      · have k5 : decide ((N : Int) ≤ who) = true := by simp [hwN]
        have HD := hide (HT.out (2) (m) (by
          unfold EM.does; rw [if_neg hk, if_neg hb, if_pos (Or.inr (by rw [HOK.out.len]; exact hwN))]))
        clear HT
        clear hw0 hwN
        obtain rfl | rfl | rfl : k = 1 ∨ k = 2 ∨ k = 3 := by omega
        · clear hk hb
          go_wp2_with (first
            | (at_builtin
               refine wpList_app1 (cs := #[.int .i64 2]) rfl (.tmp 153) (.tmp 155) 38 rfl sErr (hS.alloc _) 4 (n := q) rfl rfl rfl (by simp) rfl rfl (by omega) ?_
               intro A9 c9 w9 hS9 hC9))
          go_roundw
          case rel =>
            refine ⟨q + 1, m, Aw, nw, cw, As, cs, A9, c9, Af, nf, cf, by omega, by go_num, rfl, rfl, rfl, rfl, rfl, ?_, ?_⟩
            · show _ = _
              rw [HD.out]
            · rw [HD.out]
              unfold ERItems
              simp only [ints_app, List.map_append, List.map_cons, List.map_nil, efates_app]
              exact hS9
          case measure => simp [intOf]; omega
        · clear hk hb
          go_wp2_with (first
            | (at_builtin
               refine wpList_app1 (cs := #[.int .i64 2]) rfl (.tmp 153) (.tmp 155) 38 rfl sErr (hS.alloc _) 4 (n := q) rfl rfl rfl (by simp) rfl rfl (by omega) ?_
               intro A9 c9 w9 hS9 hC9))
          go_roundw
          case rel =>
            refine ⟨q + 1, m, Aw, nw, cw, As, cs, A9, c9, Af, nf, cf, by omega, by go_num, rfl, rfl, rfl, rfl, rfl, ?_, ?_⟩
            · show _ = _
              rw [HD.out]
            · rw [HD.out]
              unfold ERItems
              simp only [ints_app, List.map_append, List.map_cons, List.map_nil, efates_app]
              exact hS9
          case measure => simp [intOf]; omega
        · clear hk hb
          go_wp2_with (first
            | (at_builtin
               refine wpList_app1 (cs := #[.int .i64 2]) rfl (.tmp 153) (.tmp 155) 38 rfl sErr (hS.alloc _) 4 (n := q) rfl rfl rfl (by simp) rfl rfl (by omega) ?_
               intro A9 c9 w9 hS9 hC9))
          go_roundw
          case rel =>
            refine ⟨q + 1, m, Aw, nw, cw, As, cs, A9, c9, Af, nf, cf, by omega, by go_num, rfl, rfl, rfl, rfl, rfl, ?_, ?_⟩
            · show _ = _
              rw [HD.out]
            · rw [HD.out]
              unfold ERItems
              simp only [ints_app, List.map_append, List.map_cons, List.map_nil, efates_app]
              exact hS9
          case measure => simp [intOf]; omega
      have k5 : decide ((N : Int) ≤ who) = false := by simp [hwN]
      obtain ⟨j, rfl⟩ := Int.eq_ofNat_of_zero_le (show 0 ≤ who by omega)
      have hjN : j < N := by omega
      have hjl : j < m.ths.length := by rw [HOK.out.len]; exact hjN
      have hG : wr.ownsRow 0 3 1 (.slice (some ⟨w.heap.size + 1, 0, none⟩) N N) N (ints (m.ths.map (· + 1))) := hS.get 1 rfl
      have hcell : wr.cell? ⟨w.heap.size + 1, j, none⟩ = some (.int .i64 (m.ths[j] + 1)) := by
        rw [hG.cellAt j (by omega)]
        simp [ints, List.getElem?_eq_getElem hjl]
      have hfz := hG.frozenAt j
      have gl := (hG.lt _ rfl).2
      have hx1 := HOK.out.lo _ (List.getElem_mem hjl)
      have hx2 := HOK.out.hi _ (List.getElem_mem hjl)
      have hthr : m.does k j it q = m.thr k j it := by
        unfold EM.does; rw [if_neg hk, if_neg hb, if_neg (by rw [HOK.out.len]; omega)]; rfl
      have hxd : m.ths.getD j 0 = m.ths[j] := by rw [List.getD_eq_getElem?_getD, List.getElem?_eq_getElem hjl]; rfl
      unfold EM.thr at hthr
      rw [hxd] at hthr
      obtain ⟨x, hx⟩ : ∃ x, m.ths[j] = x := ⟨_, rfl⟩
      rw [hx] at hcell hx1 hx2 hthr
      clear hx hG hxd hjl hw0 hwN
      have j1 : decide (N ≤ j) = false := by simp; omega
      by_cases hh : (x != -1) = (k == 1)
      · rw [if_pos hh] at hthr
        have HD := hide (HT.out (8) (m) (by
          exact hthr))
        clear HT
        clear hthr
        have g1 : decide (0 < x + 1) = (k == 1) := by rw [← hh, Bool.eq_iff_iff]; simp; omega
        obtain rfl | rfl | rfl : k = 1 ∨ k = 2 ∨ k = 3 := by omega
        · have g2 : decide (0 < x + 1) = true := g1
          clear g1 hh hb hk
          go_wp2_with fail
          go_quiet (fail)
          go_wp2_with (first
            | (at_builtin
               refine wpList_app1 (cs := #[.int .i64 8]) rfl (.tmp 153) (.tmp 155) 38 rfl sErr ((hS.alloc _).drewN _) 4 (n := q) rfl rfl rfl (by simp) rfl rfl (by omega) ?_
               intro A9 c9 w9 hS9 hC9))
          go_roundw
          case rel =>
            refine ⟨q + 1, m, Aw, nw, cw, As, cs, A9, c9, Af, nf, cf, by omega, by go_num, rfl, rfl, rfl, rfl, rfl, ?_, ?_⟩
            · show _ = _
              rw [HD.out]
            · rw [HD.out]
              unfold ERItems
              simp only [ints_app, List.map_append, List.map_cons, List.map_nil, efates_app]
              exact hS9
          case measure => simp [intOf]; omega
        · have g2 : decide (0 < x + 1) = false := g1
          clear g1 hh hb hk
          go_wp2_with fail
          go_quiet (fail)
          go_wp2_with (first
            | (at_builtin
               refine wpList_app1 (cs := #[.int .i64 8]) rfl (.tmp 153) (.tmp 155) 38 rfl sErr ((hS.alloc _).drewN _) 4 (n := q) rfl rfl rfl (by simp) rfl rfl (by omega) ?_
               intro A9 c9 w9 hS9 hC9))
          go_roundw
          case rel =>
            refine ⟨q + 1, m, Aw, nw, cw, As, cs, A9, c9, Af, nf, cf, by omega, by go_num, rfl, rfl, rfl, rfl, rfl, ?_, ?_⟩
            · show _ = _
              rw [HD.out]
            · rw [HD.out]
              unfold ERItems
              simp only [ints_app, List.map_append, List.map_cons, List.map_nil, efates_app]
              exact hS9
          case measure => simp [intOf]; omega
        · have g2 : decide (0 < x + 1) = false := g1
          clear g1 hh hb hk
          go_wp2_with fail
          go_quiet (fail)
          go_wp2_with (first
            | (at_builtin
               refine wpList_app1 (cs := #[.int .i64 8]) rfl (.tmp 153) (.tmp 155) 38 rfl sErr ((hS.alloc _).drewN _) 4 (n := q) rfl rfl rfl (by simp) rfl rfl (by omega) ?_
               intro A9 c9 w9 hS9 hC9))
          go_roundw
          case rel =>
            refine ⟨q + 1, m, Aw, nw, cw, As, cs, A9, c9, Af, nf, cf, by omega, by go_num, rfl, rfl, rfl, rfl, rfl, ?_, ?_⟩
            · show _ = _
              rw [HD.out]
            · rw [HD.out]
              unfold ERItems
              simp only [ints_app, List.map_append, List.map_cons, List.map_nil, efates_app]
              exact hS9
          case measure => simp [intOf]; omega
      rw [if_neg hh] at hthr
      obtain rfl | rfl | rfl : k = 1 ∨ k = 2 ∨ k = 3 := by omega
      · have g2 : decide (0 < x + 1) = false := by
          simp at hh ⊢; omega
        clear hh hb hk
        have HD := hide (HT.out (0) ({ m with ths := m.ths.set j m.ep }) (by
          rw [hthr]; rw [if_pos rfl]))
        clear HT
        clear hthr
        go_wp2_with fail
        go_quiet (fail)
        have hSs := fun (o : Obj) (z : Nat) => ((hS.alloc o).drewN z).store 1 rfl j (.int .i64 (m.ep + 1))
        go_wp2_with (first
          | (at_builtin
             refine wpList_app1 (cs := #[.int .i64 0]) rfl (.tmp 153) (.tmp 155) 38 rfl sErr (hSs _ _) 4 (n := q) rfl rfl rfl (by simp) rfl rfl (by omega) ?_
             intro A9 c9 w9 hS9 hC9))
        go_roundw
        case rel =>
          refine ⟨q + 1, { m with ths := m.ths.set j m.ep }, Aw, nw, cw, As, cs, A9, c9, Af, nf, cf, by omega, by go_num, rfl, rfl, rfl, rfl, rfl, ?_, ?_⟩
          · show _ = _
            rw [HD.out]
          · rw [HD.out]
            have e : (ints (m.ths.map (· + 1))).set j (.int .i64 (m.ep + 1)) = ints ((m.ths.set j m.ep).map (· + 1)) := by unfold ints; rw [List.map_set, List.map_set] <;> rfl
            unfold ERItems
            rw [← e]
            simp only [ints_app, List.map_append, List.map_cons, List.map_nil, efates_app]
            exact hS9
        case measure => simp [intOf]; omega
      · have g2 : decide (0 < x + 1) = true := by
          simp at hh ⊢; omega
        clear hh hb hk
        have HD := hide (HT.out (0) ({ m with ths := m.ths.set j (-1) }) (by
          rw [hthr]; rw [if_neg (by omega), if_pos rfl]))
        clear HT
        clear hthr
        go_wp2_with fail
        go_quiet (fail)
        have hSs := fun (o : Obj) (z : Nat) => ((hS.alloc o).drewN z).store 1 rfl j (.int .i64 0)
        go_wp2_with (first
          | (at_builtin
             refine wpList_app1 (cs := #[.int .i64 0]) rfl (.tmp 153) (.tmp 155) 38 rfl sErr (hSs _ _) 4 (n := q) rfl rfl rfl (by simp) rfl rfl (by omega) ?_
             intro A9 c9 w9 hS9 hC9))
        go_roundw
        case rel =>
          refine ⟨q + 1, { m with ths := m.ths.set j (-1) }, Aw, nw, cw, As, cs, A9, c9, Af, nf, cf, by omega, by go_num, rfl, rfl, rfl, rfl, rfl, ?_, ?_⟩
          · show _ = _
            rw [HD.out]
          · rw [HD.out]
            have e : (ints (m.ths.map (· + 1))).set j (.int .i64 0) = ints ((m.ths.set j (-1)).map (· + 1)) := by unfold ints; rw [List.map_set, List.map_set] <;> rfl
            unfold ERItems
            rw [← e]
            simp only [ints_app, List.map_append, List.map_cons, List.map_nil, efates_app]
            exact hS9
        case measure => simp [intOf]; omega
      · have g2 : decide (0 < x + 1) = true := by
          simp at hh ⊢; omega
        clear hh hb hk
        rw [if_neg (by omega), if_neg (by omega)] at hthr
        have hf : ¬ 100 ≤ nw := by omega
        rw [if_neg (by rw [HWL.out]; exact hf)] at hthr
        have HD := hide (HT.out (0) ({ m with waits := m.waits ++ [(it, m.ep)] }) (by
          exact hthr))
        clear HT
        clear hthr
        go_wp2_with fail

        go_quiet (fail)
        go_wp2_with (first
          | (at_builtin
             refine wpList_app1 (cs := #[.int .i64 it]) rfl (.tmp 144) (.tmp 147) 40 rfl sInt ((hS.alloc _).drewN _) 2 (n := nw) rfl rfl rfl (by simp) rfl rfl (by omega) ?_
             intro A8 c8 w8 hS8 hC8)
          | (at_builtin
             refine wpList_app1 (cs := #[.int .i64 m.ep]) rfl (.tmp 149) (.tmp 151) 40 rfl sInt hS8 3 (n := nw) rfl rfl rfl (by simp) rfl rfl (by omega) ?_
             intro A7 c7 w7 hS7 hC7)
          | (at_builtin
             refine wpList_app1 (cs := #[.int .i64 0]) rfl (.tmp 153) (.tmp 155) 38 rfl sErr hS7 4 (n := q) rfl rfl rfl (by simp) rfl rfl (by omega) ?_
             intro A9 c9 w9 hS9 hC9))
        go_roundw
        case rel =>
          refine ⟨q + 1, { m with waits := m.waits ++ [(it, m.ep)] }, A8, nw + 1, c8, A7, c7, A9, c9, Af, nf, cf, by omega, by go_num, rfl, rfl, rfl, rfl, rfl, ?_, ?_⟩
          · show _ = _
            rw [HD.out]
          · rw [HD.out]
            unfold ERItems
            simp only [ints_app, List.map_append, List.map_cons, List.map_nil, efates_app]
            exact hS9
        case measure => simp [intOf]; omega
    · obtain rfl : q = n := by omega
      obtain ⟨y1, y2, y3, y4⟩ := hS.rules 0 (g := w.heap.size) (t := 42) rfl
      go_wp2_with fail
      refine (freeing_any _ _ _ _ _ _ _ _ _ _).mono ?_
      rintro e w3 ⟨rfl, hb3⟩
      have hS4 := hS.below hb3
      clear y1 y2 y3 y4
      obtain ⟨y1, y2, y3, y4⟩ := hS4.rules 0 (g := w.heap.size) (t := 42) rfl
      go_wp2_with fail
      have hF := ((hS4.set_ 0 (g := w.heap.size) (t := 42) rfl 0 (.slice Ac q cc)).set_ 0 (g := w.heap.size) (t := 42) rfl 1 (.slice Af nf cf)).set_ 0 (g := w.heap.size) (t := 42) rfl 2 (.slice Aw nw cw)
      refine bodyPost_ret (v := .agg #[.slice Ac q cc, .slice Af nf cf, .slice Aw nw cw]) (by simp [results, Try.results35, go_sem, y1]) rfl ⟨_, rfl, ?_, ?_⟩
      · exact hF.below_
      · rw [← HM.out]
        exact ⟨_, _, _, _, _, _, _, _, _, rfl, hF.rd 4 rfl, hF.rd 5 rfl, hF.rd 2 rfl⟩
end Go.Proofs.Ytpbafmdebflbpaa
