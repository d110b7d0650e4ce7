/- The reference's Order. -/
import Derived.Test.YtpbafmdebflbpaaOrdR
namespace Go.Proofs.Ytpbafmdebflbpaa
open Go.RowKit

theorem ints_snoc_ (l : List Int) (x : Int) : ints (l ++ [x]) = ints l ++ [.int .i64 x] := by simp [ints]
theorem seenAll_cons (l : List Int) (v : Val) (vs : List Val) : seenAll l (v :: vs) = seenAll (seen1 l v) vs := rfl
theorem int_nat {x : Int} (h : 0 ≤ x) : ∃ j : Nat, x = (j : Int) := ⟨x.toNat, by omega⟩

set_option maxRecDepth 100000 in
set_option maxHeartbeats 16000000 in
theorem order_any (w : World) (v : Value) (fss : List (List Val)) (roots : List Val) (h : GraphRd w (fun _ => True) v fss roots) (hn : fss.length ≤ 1000) (hr : roots.length ≤ 1000) (hf : ∀ fs ∈ fss, fs.length ≤ 1000) (hv : ValsOk fss.length roots) (hg : ∀ fs ∈ fss, ValsOk fss.length fs) :
    Calls Try.prog 67 #[v] w fun e w' => ∃ A n c, e = .returned (.slice A n c) ∧ Sep No w w' [rowI 3 1 A n c (ints (order fss roots))] := by
  obtain ⟨AO, nO, cO, AR, nR, cR, obs, rfl, hO, h3, hR⟩ := h.ex
  have HRL := hide (show roots.length = nR by have := hR.1; rw [vals_length] at this; omega)
  have HOL := hide hO.len
  have hlen : fss.length = nO := by rw [← h3, List.length_map]; exact hO.len
  rw [hlen] at hv hg hn
  have HG := hide hg
  have HV := hide hv
  have HF := hide hf
  have H3 := hide h3
  have HLEN := hide hlen
  have hnR : nR ≤ 1000 := by have := HRL.out; omega
  have HS0 := hide (((Sep.nil No w).blkAt 52 #[.slice AO nO cO, .slice AR nR cR] rfl).nilRow0 3 1)
  obtain ⟨a1, a2, a3, a4⟩ := HS0.out.rules 1 (g := w.heap.size) (t := 52) rfl
  clear hv hg hf h3 hlen hr h
  go_enter Try.func67, Try.ntmps67
  go_wp2_with fail
  clear a1 a2 a3 a4
  go_loopw [3, 12] (fun s3 i wr => ∃ (k m : Nat) (A : Option Addr) (c : Nat), k ≤ nR ∧ i = .int .i64 k ∧ s3 = .slice A m c ∧ m ≤ nO ∧ Sep No w wr [rowI 3 1 A m c (ints (seenAll [] (roots.take k))), blkI w.heap.size 52 #[.slice AO nO cO, .slice AR nR cR]]) (fun _ i _ => nR - (intOf i).toNat)
  case atStart => exact ⟨0, 0, none, 0, by omega, rfl, rfl, by omega, HS0.out⟩
  case round =>
    clear HS0
    obtain ⟨k, m, A, c, hk, rfl, rfl, hm, hS⟩ := hrel
    by_cases hlt : k < nR
    · have hkl : k < roots.length := by rw [HRL.out]; exact hlt
      obtain ⟨ad, hA, _, had, hc, hd⟩ := (hR.below hS.below_).atN hlt
      obtain ⟨v0, v1⟩ := vals_at roots k hkl
      have e0 := hc _ v0
      have e1 := hd 0 _ v1
      have hvk := HV.out _ (List.getElem_mem hkl)
      have HT := hide (List.take_succ_eq_append_getElem hkl)
      have hok := ((OrdOk.nil nO).seenAll (HV.out.take (k + 1))).len
      obtain ⟨x, hx⟩ : ∃ x, roots[k] = x := ⟨_, rfl⟩
      rw [hx] at e0 e1 HT hvk
      rw [HT.out, seenAll_snoc] at hok
      subst hA
      clear hc hd v0 v1 hx
      obtain ⟨b, y⟩ := x
      dsimp only at e0 e1 hvk
      obtain ⟨l, hl⟩ : ∃ l, seenAll [] (roots.take k) = l := ⟨_, rfl⟩
      rw [hl] at hS hok
      have HL := hide hl
      have HLM := hide (show l.length = m by have := (hS.rd_ 0 rfl).1; simpa using this)
      cases b with
      | false =>
        have HX := hide (seen1_no l false y (.inl rfl))
        have HS := hide (hS.alloc (.cells #[.bool false, .int .i64 y] 32))
        clear hvk hl hok hS
        go_wp2_with fail
        go_roundw
        case rel => exact ⟨k + 1, m, A, c, by omega, by go_num, rfl, hm, by rw [HT.out, seenAll_snoc, HL.out, HX.out]; exact HS.out⟩
        case measure => simp [intOf]; omega
      | true =>
        have hS1 := hS.alloc (.cells #[.bool true, .int .i64 y] 32)
        have C := has_any _ (fun _ => True) A m c l y (by omega) (hS1.rd_ 0 rfl)
        have HS := hide hS1
        have HSO := hide hS
        by_cases hy : y ∈ l
        · have HX := hide (seen1_no l true y (.inr hy))
          rw [show decide (y ∈ l) = true from by simp [hy]] at C
          have HC := hide C
          clear hvk hl hok hS hS1 C hy
          go_wp2_with fail
          refine HC.out.mono ?_
          rintro e w3 ⟨rfl, rfl⟩
          go_wp2_with fail
          go_roundw
          case rel => exact ⟨k + 1, m, A, c, by omega, by go_num, rfl, hm, by rw [HT.out, seenAll_snoc, HL.out, HX.out]; exact HS.out⟩
          case measure => simp [intOf]; omega
        · have HX := hide (seen1_yes l y hy)
          rw [show decide (y ∈ l) = false from by simp [hy]] at C
          rw [HX.out, List.length_append, HLM.out] at hok
          have hm1 : m + 1 ≤ nO := by simpa using hok
          have HC := hide C
          clear hvk hl hok hS hS1 C hy
          go_wp2_with fail
          refine HC.out.mono ?_
          rintro e w3 ⟨rfl, rfl⟩
          have hS3 := HS.out
          go_wp2_with (first
            | (at_builtin
               refine wpList_app1 (cs := #[.int .i64 y]) rfl (.tmp 25) (.tmp 28) 40 rfl sInt hS3 0 (n := m) rfl rfl rfl (by simp) rfl rfl (by omega) ?_
               intro A4 c4 w4 hS4 hC4))
          go_roundw
          case rel => exact ⟨k + 1, m + 1, A4, c4, by omega, by go_num, rfl, hm1, by rw [HT.out, seenAll_snoc, HL.out, HX.out, ints_snoc_]; exact hS4⟩
          case measure => simp [intOf]; omega
    · obtain rfl : k = nR := by omega
      rw [show roots.take k = roots from List.take_of_length_le (by rw [HRL.out]; omega)] at hS
      have HS := hide hS
      clear hS
      go_wp2_with fail
      have HO := hide (show order fss roots = bfs fss (nO - 0) 0 (seenAll [] roots) from by unfold order; rw [HLEN.out]; rfl)
      have HOK := hide ((OrdOk.nil nO).seenAll HV.out)
      obtain ⟨l0, hl0⟩ : ∃ l, seenAll [] roots = l := ⟨_, rfl⟩
      rw [hl0] at HS HO HOK
      clear hl0
      go_loopw [3, 6] (fun s3 i w2 => ∃ (j m : Nat) (A : Option Addr) (c : Nat) (l : List Int), j ≤ m ∧ i = .int .i64 j ∧ s3 = .slice A m c ∧ m ≤ nO ∧ Hid (order fss roots = bfs fss (nO - j) j l) ∧ Hid (OrdOk nO l) ∧ Sep No w w2 [rowI 3 1 A m c (ints l), blkI w.heap.size 52 #[.slice AO nO cO, .slice AR k cR]]) (fun _ i _ => nO - (intOf i).toNat)
      case atStart => exact ⟨0, m, A, c, l0, by omega, rfl, rfl, hm, HO, HOK, HS.out⟩
      case round =>
        clear HS HO HOK hm
        obtain ⟨j, m, A, c, l, hj, rfl, rfl, hm, HO, HOK, hS⟩ := hrel
        have HLM := hide (show l.length = m by have := (hS.rd_ 0 rfl).1; simpa using this)
        by_cases hlt : j < m
        · have hjl : j < l.length := by rw [HLM.out]; exact hlt
          obtain ⟨ad, hA, _, had, hc⟩ := (hS.rd_ 0 rfl).at_ hlt
          have e0 := hc (.int .i64 l[j]) (by simp [ints, List.getElem?_eq_getElem hjl])
          obtain ⟨r1, r2⟩ := HOK.out.rng _ (List.getElem_mem hjl)
          have HST := hide (bfs_step fss nO j l hjl (by rw [HLM.out]; exact hm))
          have hgd : l.getD j 0 = l[j] := by rw [List.getD_eq_getElem?_getD, List.getElem?_eq_getElem hjl]; rfl
          rw [hgd] at HST
          obtain ⟨x, hx⟩ := int_nat r1
          rw [hx] at e0 r2 HST
          have hxn : x < nO := by omega
          have hxl : x < obs.length := by rw [HOL.out]; exact hxn
          obtain ⟨ad2, hA2, _, had2, hc2⟩ := (hO.below hS.below_).row.at_ hxn
          have e1 := hc2 obs[x].val (by simp [List.getElem?_eq_getElem hxl])
          have hEach := hO.each _ (List.getElem_mem hxl)
          have hFl := hO.flen (List.getElem_mem hxl)
          have hfi : fieldsI fss (x : Int) = obs[x].fields := by
            unfold fieldsI
            rw [← H3.out, List.getD_eq_getElem?_getD]
            simp [List.getElem?_eq_getElem hxl]
          have hfm : obs[x].fields ∈ fss := by rw [← H3.out]; exact List.mem_map.2 ⟨_, List.getElem_mem hxl, rfl⟩
          have hfb := HF.out _ hfm
          have hfv := HG.out _ hfm
          obtain ⟨o, ho⟩ : ∃ o, obs[x] = o := ⟨_, rfl⟩
          rw [hfi] at HST
          rw [ho] at e1 hEach hFl hfb hfv HST
          unfold Ob.val at e1
          rw [hFl] at hfb
          have HFL := hide hFl
          have HFV := hide hfv
          obtain ⟨g1, g2, g3, g4⟩ := hS.rules 1 (g := w.heap.size) (t := 52) rfl
          have HS := hide hS
          have i0 : (0 : Int) ≤ x := by omega
          subst hA hA2
          clear hc hc2 r1 r2 hgd hx hfi hfm hFl hfv ho hS
          go_wp2_with fail
          go_quiet (fail)
          rename_i nq
          clear e0 e1 g1 g2 g3 g4 had had2
          have HS2 := hide (HS.out.drewN nq)
          clear HS
          obtain ⟨wq, hwq⟩ : ∃ wq, wr.drewN nq = wq := ⟨_, rfl⟩
          rw [hwq] at HS2
          go_wp2_with fail
          have HO2 := hide (show order fss roots = bfs fss (nO - (j + 1)) (j + 1) (seenAll (seenAll l (o.fields.take 0)) (o.fields.drop 0)) from by rw [HO.out, HST.out]; rfl)
          go_loopw [3, 47] (fun s3 i w3 => ∃ (p m : Nat) (A : Option Addr) (c : Nat) (l' : List Int), p ≤ o.n ∧ i = .int .i64 p ∧ s3 = .slice A m c ∧ j < m ∧ m ≤ nO ∧ Hid (order fss roots = bfs fss (nO - (j + 1)) (j + 1) (seenAll l' (o.fields.drop p))) ∧ Hid (OrdOk nO l') ∧ Sep No w w3 [rowI 3 1 A m c (ints l'), blkI w.heap.size 52 #[.slice (some ad2) nO cO, .slice AR k cR]]) (fun _ i _ => o.n - (intOf i).toNat)
          case atStart => exact ⟨0, m, _, c, l, by omega, rfl, rfl, hlt, hm, HO2, HOK, by rw [← hwq] at HS2; exact HS2.out⟩
          case round =>
            clear HS2 HO2 hm
            obtain ⟨p, m, A, c, l', hp, rfl, rfl, hjm, hm, HO3, HOK3, hS⟩ := hrel
            have HLM3 := hide (show l'.length = m by have := (hS.rd_ 0 rfl).1; simpa using this)
            by_cases hlp : p < o.n
            · have hpl : p < o.fields.length := by rw [HFL.out]; exact hlp
              obtain ⟨ad3, hA3, _, had3, hc3, hd3⟩ := (hEach.below hS.below_).atN hlp
              obtain ⟨v0, v1⟩ := vals_at o.fields p hpl
              have e0 := hc3 _ v0
              have e1 := hd3 0 _ v1
              have hvk := HFV.out _ (List.getElem_mem hpl)
              have HT := hide (List.drop_eq_getElem_cons hpl)
              have hok := HOK3.out.seen1 hvk
              obtain ⟨x3, hx3⟩ : ∃ x, o.fields[p] = x := ⟨_, rfl⟩
              rw [hx3] at e0 e1 HT hok
              rw [hA3]
              have HA3 := hide hA3
              clear hc3 hd3 v0 v1 hx3 hA3 hvk
              obtain ⟨b, y⟩ := x3
              dsimp only at e0 e1
              cases b with
              | false =>
                have HX := hide (seen1_no l' false y (.inl rfl))
                have HS := hide (hS.alloc (.cells #[.bool false, .int .i64 y] 32))
                clear hok hS
                go_wp2_with fail
                go_roundw
                case rel => exact ⟨p + 1, m, A, c, l', by omega, by go_num, rfl, hjm, hm, by
                  show _ = _
                  rw [HO3.out, HT.out, seenAll_cons, HX.out], HOK3, HS.out⟩
                case measure => simp [intOf]; omega
              | true =>
                have hS1 := hS.alloc (.cells #[.bool true, .int .i64 y] 32)
                have C := has_any _ (fun _ => True) A m c l' y (by omega) (hS1.rd_ 0 rfl)
                have HS := hide hS1
                have HOK4 := hide hok
                have hok2 := hok.len
                by_cases hy : y ∈ l'
                · have HX := hide (seen1_no l' true y (.inr hy))
                  rw [show decide (y ∈ l') = true from by simp [hy]] at C
                  have HC := hide C
                  clear hok hok2 hS hS1 C hy
                  go_wp2_with fail
                  refine HC.out.mono ?_
                  rintro e w5 ⟨rfl, rfl⟩
                  go_wp2_with fail
                  go_roundw
                  case rel => exact ⟨p + 1, m, A, c, l', by omega, by go_num, rfl, hjm, hm, by
                    show _ = _
                    rw [HO3.out, HT.out, seenAll_cons, HX.out], HOK3, HS.out⟩
                  case measure => simp [intOf]; omega
                · have HX := hide (seen1_yes l' y hy)
                  rw [show decide (y ∈ l') = false from by simp [hy]] at C
                  rw [HX.out, List.length_append, HLM3.out] at hok2
                  have hm1 : m + 1 ≤ nO := by simpa using hok2
                  have HC := hide C
                  clear hok hok2 hS hS1 C hy
                  go_wp2_with fail
                  refine HC.out.mono ?_
                  rintro e w5 ⟨rfl, rfl⟩
                  have hS3 := HS.out
                  go_wp2_with (first
                    | (at_builtin
                       refine wpList_app1 (cs := #[.int .i64 y]) rfl (.tmp 60) (.tmp 63) 40 rfl sInt hS3 0 (n := m) rfl rfl rfl (by simp) rfl rfl (by omega) ?_
                       intro A4 c4 w4 hS4 hC4))
                  go_roundw
                  case rel => exact ⟨p + 1, m + 1, A4, c4, l' ++ [y], by omega, by go_num, rfl, by omega, hm1, by
                    show _ = _
                    rw [HO3.out, HT.out, seenAll_cons, HX.out], by rw [HX.out] at HOK4; exact HOK4, by rw [ints_snoc_]; exact hS4⟩
                  case measure => simp [intOf]; omega
            · obtain rfl : p = o.n := by omega
              have HE := hide (show order fss roots = bfs fss (nO - (j + 1)) (j + 1) l' from by
                rw [HO3.out, List.drop_of_length_le (by rw [HFL.out]; omega)]; rfl)
              go_wp2_with fail
              go_roundw
              case rel => exact ⟨j + 1, m, A, c, l', by omega, by go_num, rfl, hm, HE, HOK3, hS⟩
              case measure => simp [intOf]; omega
        · obtain rfl : j = m := by omega
          have HE := hide (bfs_end fss (nO - j) j l (by rw [HLM.out]; omega))
          go_wp2_with fail
          go_ret
          exact ⟨A, j, c, rfl, by rw [HO.out, HE.out]; exact hS.sub (by simp)⟩
end Go.Proofs.Ytpbafmdebflbpaa
