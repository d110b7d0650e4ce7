/- The reference's Dist, Reach: the walks. The reference's Reach. The order in which objects are found is closed under references. -/
import Derived.Test.YtjphckfbbiehdaaSGenPlays13
import Derived.Test.YtjphckfbbiehdaaSGenPlays4
set_option linter.unusedSimpArgs false
set_option linter.unusedVariables false
namespace Go.Proofs.Ytjphckfbbiehdaa
open Go.RowKit
theorem take_set_ {d : List Int} {k : Nat} (x : Int) (h : k < d.length) : (d.set k x).take (k + 1) = d.take k ++ [x] := by
  rw [List.take_succ_eq_append_getElem (by simpa using h)]
  simp [List.take_set_of_le (Nat.le_refl k)]
theorem getD_get {d : List Int} {k : Nat} (h : k < d.length) : d.getD k 0 = d[k] := by rw [List.getD_eq_getElem?_getD, List.getElem?_eq_getElem h]; rfl
theorem dLook_keep {gs : List (List Val)} {t i : Nat} {d : List Int} (j : Nat) (h : d.getD i 0 = (t : Int)) : (dLook gs t i d j).getD i 0 = (t : Int) := by
  unfold dLook
  split
  · rename_i hc
    have hne : i ≠ j := by rintro rfl; omega
    rw [List.getD_eq_getElem?_getD, List.getElem?_set_ne (Ne.symm hne), ← List.getD_eq_getElem?_getD]
    exact h
  · exact h
theorem dLooks_keep {gs : List (List Val)} {t i : Nat} (js : List Nat) {d : List Int} (h : d.getD i 0 = (t : Int)) : (js.foldl (dLook gs t i) d).getD i 0 = (t : Int) := by
  induction js generalizing d with
  | nil => exact h
  | cons a js ih => exact ih (dLook_keep a h)
theorem cell_of_ints {w : World} {base e g n c : Nat} {d : List Int} (h : w.ownsRow base e 1 (.slice (some ⟨g, 0, none⟩) n c) n (ints d)) (k : Nat) (hk : k < d.length) : w.cell? ⟨g, k, none⟩ = some (.int .i64 d[k]) := by
  have hl : d.length = n := by have := h.1; simpa using this
  rw [h.cellAt k (by omega)]
  simp [ints, List.getElem?_eq_getElem hk]
set_option maxRecDepth 100000 in
set_option maxHeartbeats 16000000 in
theorem dist_any (w : World) (v : Value) (fss : List (List Val)) (roots : List Val) (h : GraphRd w (fun _ => True) v fss roots) (hn : fss.length ≤ 1000) (hr : roots.length ≤ 1000) (hf : ∀ fs ∈ fss, fs.length ≤ 1000) :
    Calls Try.prog 212 #[v] w fun e w' => ∃ A c, e = .returned (.slice A fss.length c) ∧ Sep No w w' [rowI 3 1 A fss.length c (ints (distR fss roots))] := by
  obtain ⟨AO, nO, cO, AR, nR, cR, obs, rfl, hO, h3, hR⟩ := h.ex
  have hRL : roots.length = nR := by have := hR.1; rw [vals_length] at this; omega
  have HOL := hide hO.len
  have hlen : fss.length = nO := by rw [← h3, List.length_map]; exact hO.len
  have HF := hide hf
  have H3 := hide h3
  have HLEN := hide hlen
  have hnR : nR ≤ 1000 := by omega
  rw [hlen] at hn ⊢
  have hS0 := (Sep.nil No w).blkAt 27 #[.slice AO nO cO, .slice AR nR cR] rfl
  obtain ⟨a1, a2, a3, a4⟩ := hS0.rules 0 (g := w.heap.size) (t := 27) rfl
  clear hf h3 hlen hr h hRL
  go_enter Try.func212, Try.ntmps212
  go_wp2_with (first
    | (at_make
       refine wpList_make rfl (.tmp 10) (.tmp 10) 35 rfl hS0 Try.underlying35 dInt (by omega) .i64 .i64 nO rfl rfl (by omega) ?_
       intro w1 hS1 hb1))
  have hS2 : Sep No w w1 [blkI w.heap.size 27 #[.slice AO nO cO, .slice AR nR cR], rowI 3 1 (some ⟨w.heap.size + 1, 0, none⟩) nO nO (ints (List.replicate nO 0))] := by
    rw [dMadeInts] at hS1
    rw [show (w.alloc (.cells #[.slice AO nO cO, .slice AR nR cR] 27)).heap.size = w.heap.size + 1 from by simp] at hS1
    exact hS1
  have HS2 := hide hS2
  clear a1 a2 a3 a4 hS0 hS1 hb1 hS2
  go_loopw [4] (fun s wr => ∃ (k : Nat) (d : List Int), k ≤ nO ∧ s = .int .i64 k ∧ Hid (d.length = nO) ∧ Hid (d.take k = (d0 fss roots).take k) ∧ Sep No w wr [blkI w.heap.size 27 #[.slice AO nO cO, .slice AR nR cR], rowI 3 1 (some ⟨w.heap.size + 1, 0, none⟩) nO nO (ints d)]) (fun s _ => nO - (intOf s).toNat)
  case atStart => exact ⟨0, _, by omega, rfl, by simp [Hid], by simp [Hid], HS2.out⟩
  case round =>
    clear HS2
    obtain ⟨k, d, hk, rfl, HDL, HDT, hS⟩ := hrel
    by_cases hlt : k < nO
    · have hkl : k < d.length := by rw [HDL.out]; exact hlt
      have hrow : wr.ownsRow 0 3 1 (.slice (some ⟨w.heap.size + 1, 0, none⟩) nO nO) nO (ints d) := hS.get 1 rfl
      have f1 := cell_of_ints hrow k hkl
      obtain ⟨y1, hy1⟩ : ∃ y, d[k] = y := ⟨_, rfl⟩
      rw [hy1] at f1
      clear hy1
      have f2 := hrow.frozenAt k
      have hS3 := hS.store 1 rfl k (.int .i64 (-1))
      rw [ints_set_] at hS3
      obtain ⟨g1, g2, g3, g4⟩ := hS3.rules 0 (g := w.heap.size) (t := 27) rfl
      have HT0 := hide (show (d0 fss roots).take (k + 1) = (d0 fss roots).take k ++ [if refers roots (k : Int) = true then 0 else -1] from by
        rw [List.take_succ_eq_append_getElem (by rw [d0_len, HLEN.out]; exact hlt)]
        simp [d0])
      have C := refers_any (wr.setCell ⟨w.heap.size + 1, k, none⟩ (.int .i64 (-1))) AR nR cR roots (k : Int) hnR (hR.below hS3.below_)
      have HS3 := hide hS3
      have hSg := hS.hi 1 rfl (w.heap.size + 1) rfl
      have HTS := hide (fun x => take_set_ (d := d) (k := k) x hkl)
      have HKL := hide hkl
      cases hq : refers roots (k : Int) with
      | true =>
        rw [hq] at C HT0
        have HC := hide C
        clear hrow hS3 hS C hkl hq
        go_wp2_with fail
        refine HC.out.mono ?_
        rintro e w4 ⟨rfl, hb4⟩
        have hS4 : Sep No w w4 [blkI w.heap.size 27 #[.slice AO nO cO, .slice AR nR cR], rowI 3 1 (some ⟨w.heap.size + 1, 0, none⟩) nO nO (ints (d.set k (-1)))] := HS3.out.below hb4
        have hrow4 : w4.ownsRow 0 3 1 (.slice (some ⟨w.heap.size + 1, 0, none⟩) nO nO) nO (ints (d.set k (-1))) := hS4.get 1 rfl
        have f3 := cell_of_ints hrow4 k (by rw [List.length_set]; exact HKL.out)
        have f4 := hrow4.frozenAt k
        have hS5 := hS4.store 1 rfl k (.int .i64 0)
        rw [ints_set_, List.set_set] at hS5
        have HS5 := hide hS5
        have hSg4 := hS4.hi 1 rfl (w.heap.size + 1) rfl
        clear hS4 hrow4 hS5 HC HS3 f1 f2 g1 g2 g3 g4 hb4
        go_wp2_with fail
        go_roundw
        case rel => exact ⟨k + 1, d.set k 0, by omega, by go_num, by rw [List.length_set]; exact HDL, by
          show _ = _
          rw [HTS.out, HDT.out, HT0.out]; rfl, HS5.out⟩
        case measure => simp [intOf]; omega
      | false =>
        rw [hq] at C HT0
        have HC := hide C
        clear hrow hS3 hS C hkl hq
        go_wp2_with fail
        refine HC.out.mono ?_
        rintro e w4 ⟨rfl, hb4⟩
        have HS5 := hide (HS3.out.below hb4)
        clear HC HS3 f1 f2 g1 g2 g3 g4 hb4
        go_wp2_with fail
        go_roundw
        case rel => exact ⟨k + 1, d.set k (-1), by omega, by go_num, by rw [List.length_set]; exact HDL, by
          show _ = _
          rw [HTS.out, HDT.out, HT0.out]; rfl, HS5.out⟩
        case measure => simp [intOf]; omega
    · obtain rfl : k = nO := by omega
      have hd : d = d0 fss roots := by
        have h1 := HDT.out
        rw [List.take_of_length_le (by rw [HDL.out]; omega), List.take_of_length_le (by rw [d0_len, HLEN.out]; omega)] at h1
        exact h1
      subst hd
      have HS := hide hS
      clear hS HDT HDL hlt
      go_wp2_with fail
      go_loopw [5] (fun s w2 => ∃ (t : Nat) (d : List Int), t ≤ k ∧ s = .int .i64 t ∧ Hid (d = (List.range t).foldl (dTurn fss) (d0 fss roots)) ∧ Sep No w w2 [blkI w.heap.size 27 #[.slice AO k cO, .slice AR nR cR], rowI 3 1 (some ⟨w.heap.size + 1, 0, none⟩) k k (ints d)]) (fun s _ => k - (intOf s).toNat)
      case atStart => exact ⟨0, _, by omega, rfl, rfl, HS.out⟩
      case round =>
        clear HS
        obtain ⟨t, dT, ht, rfl, HDT, hS⟩ := hrel
        have HDTL := hide (show dT.length = k from by rw [HDT.out, dTurns_len, d0_len, HLEN.out])
        by_cases hlt : t < k
        · have HS := hide hS
          clear hS
          go_wp2_with fail
          go_loopw [6] (fun s w3 => ∃ (i : Nat) (d : List Int), i ≤ k ∧ s = .int .i64 i ∧ Hid (d = (List.range i).foldl (dFrom fss t) dT) ∧ Sep No w w3 [blkI w.heap.size 27 #[.slice AO k cO, .slice AR nR cR], rowI 3 1 (some ⟨w.heap.size + 1, 0, none⟩) k k (ints d)]) (fun s _ => k - (intOf s).toNat)
          case atStart => exact ⟨0, dT, by omega, rfl, rfl, HS.out⟩
          case round =>
            clear HS
            obtain ⟨i, dF, hi, rfl, HDF, hS⟩ := hrel
            have HDFL := hide (show dF.length = k from by rw [HDF.out, dFroms_len]; exact HDTL.out)
            by_cases hli : i < k
            · have hil : i < obs.length := by rw [HOL.out]; exact hli
              have hEach := hO.each _ (List.getElem_mem hil)
              have hFl := hO.flen (List.getElem_mem hil)
              obtain ⟨adO, hAO, _, _, hcO⟩ := hO.row.at_ hli
              have hfi : fieldsI fss (i : Int) = obs[i].fields := by
                unfold fieldsI
                rw [← H3.out, List.getD_eq_getElem?_getD]
                simp [List.getElem?_eq_getElem hil]
              have hfb := HF.out _ (show obs[i].fields ∈ fss by rw [← H3.out]; exact List.mem_map.2 ⟨_, List.getElem_mem hil, rfl⟩)
              have hRow := hO.row
              have hval : (obs.map Ob.val)[i]? = some obs[i].val := by simp [List.getElem?_eq_getElem hil]
              obtain ⟨o, ho⟩ : ∃ o, obs[i] = o := ⟨_, rfl⟩
              rw [ho] at hEach hFl hfi hfb hval
              rw [hFl] at hfb
              unfold Ob.val at hval
              have HFI := hide hfi
              have HVAL := hide hval
              have HROW := hide hRow
              have HEACH := hide hEach
              subst hAO
              clear hFl hfi hval hRow hEach ho hcO
              have HS := hide hS
              clear hS
              go_wp2_with fail
              go_loopw [7] (fun s w4 => ∃ (j : Nat) (d : List Int), j ≤ k ∧ s = .int .i64 j ∧ Hid (d = (List.range j).foldl (dLook fss t i) dF) ∧ Hid (dF.getD i 0 ≠ (t : Int) → j = 0) ∧ Sep No w w4 [blkI w.heap.size 27 #[.slice (some adO) k cO, .slice AR nR cR], rowI 3 1 (some ⟨w.heap.size + 1, 0, none⟩) k k (ints d)]) (fun s _ => k - (intOf s).toNat)
              case atStart => exact ⟨0, dF, by omega, rfl, rfl, fun _ => rfl, HS.out⟩
              case round =>
                clear HS
                obtain ⟨j, d, hj, rfl, HD, HJ, hS⟩ := hrel
                have hdl : d.length = k := by rw [HD.out, dLookAll_len]; exact HDFL.out
                have HDL := hide hdl
                have hrow : wr.ownsRow 0 3 1 (.slice (some ⟨w.heap.size + 1, 0, none⟩) k k) k (ints d) := hS.get 1 rfl
                have fi1 := cell_of_ints hrow i (by omega)
                have hgdi := getD_get (d := d) (k := i) (by omega)
                by_cases hA : dF.getD i 0 = (t : Int)
                · have hdi : d.getD i 0 = (t : Int) := by rw [HD.out]; exact dLooks_keep _ hA
                  rw [← hgdi, hdi] at fi1
                  have HAA := hide hA
                  clear hgdi hdi hA
                  by_cases hlj : j < k
                  · have fj1 := cell_of_ints hrow j (by omega)
                    have fj2 := hrow.frozenAt j
                    have hgdj := getD_get (d := d) (k := j) (by omega)
                    have hSg := hS.hi 1 rfl (w.heap.size + 1) rfl
                    have HST := hide (show (List.range (j + 1)).foldl (dLook fss t i) dF = dLook fss t i d j from by rw [range_snoc_fold, ← HD.out])
                    obtain ⟨y, hy⟩ : ∃ y, d[j]'(by omega) = y := ⟨_, rfl⟩
                    rw [hy] at fj1 hgdj
                    by_cases hneg : y < 0
                    · have k1 : decide (y < 0) = true := by simp [hneg]
                      obtain ⟨g1, g2, g3, g4⟩ := hS.rules 0 (g := w.heap.size) (t := 27) rfl
                      obtain ⟨adO', hAO', _, had, hcO'⟩ := (HROW.out.below hS.below_).at_ hli
                      obtain rfl : adO = adO' := Option.some.inj hAO'
                      have e0 := hcO' _ HVAL.out
                      have C := refers_any wr o.A o.n o.c o.fields (j : Int) hfb (HEACH.out.below hS.below_)
                      have HS := hide hS
                      cases hq : refers o.fields (j : Int) with
                      | true =>
                        have HX := hide (show dLook fss t i d j = d.set j ((t : Int) + 1) from by unfold dLook; rw [HFI.out, hgdj, if_pos ⟨hneg, hq⟩])
                        rw [hq] at C
                        have HC := hide C
                        clear hS hrow hdl hgdj hy hcO' hAO' hq C hneg
                        go_wp2_with fail
                        refine HC.out.mono ?_
                        rintro e w5 ⟨rfl, hb5⟩
                        have hS5 := HS.out.below hb5
                        have hrow5 : w5.ownsRow 0 3 1 (.slice (some ⟨w.heap.size + 1, 0, none⟩) k k) k (ints d) := hS5.get 1 rfl
                        have f3 := hrow5.cellAt j (by omega)
                        rw [show (ints d)[j]? = some (.int .i64 (d[j]'(by rw [HDL.out]; exact hlj))) from by simp [ints, List.getElem?_eq_getElem (show j < d.length by rw [HDL.out]; exact hlj)]] at f3
                        have f4 := hrow5.frozenAt j
                        have hS6 := hS5.store 1 rfl j (.int .i64 ((t : Int) + 1))
                        rw [ints_set_] at hS6
                        have HS6 := hide hS6
                        have hSg5 := hS5.hi 1 rfl (w.heap.size + 1) rfl
                        clear hS5 hrow5 hS6 HC HS hb5 g1 g2 g3 g4 e0 fi1 fj1 fj2 had
                        go_wp2_with fail
                        go_roundw
                        case rel => exact ⟨j + 1, d.set j ((t : Int) + 1), by omega, by go_num, by rw [HST.out, HX.out]; rfl, fun h => absurd HAA.out h, HS6.out⟩
                        case measure => simp [intOf]; omega
                      | false =>
                        have HX := hide (show dLook fss t i d j = d from by unfold dLook; rw [HFI.out, if_neg (by rw [hq]; simp)])
                        rw [hq] at C
                        have HC := hide C
                        clear hS hrow hdl hgdj hy hcO' hAO' hq C hneg
                        go_wp2_with fail
                        refine HC.out.mono ?_
                        rintro e w5 ⟨rfl, hb5⟩
                        have HS6 := hide (HS.out.below hb5)
                        clear HC HS hb5 g1 g2 g3 g4 e0 fi1 fj1 fj2 had
                        go_wp2_with fail
                        go_roundw
                        case rel => exact ⟨j + 1, d, by omega, by go_num, by rw [HST.out, HX.out]; rfl, fun h => absurd HAA.out h, HS6.out⟩
                        case measure => simp [intOf]; omega
                    · have k1 : decide (y < 0) = false := by simp only [hneg, decide_false]
                      have HX := hide (show dLook fss t i d j = d from by unfold dLook; rw [if_neg (by rw [hgdj]; exact fun h => hneg h.1)])
                      have HS := hide hS
                      clear hS hrow hdl hgdj hy hneg
                      go_wp2_with fail
                      go_roundw
                      case rel => exact ⟨j + 1, d, by omega, by go_num, by rw [HST.out, HX.out]; rfl, fun h => absurd HAA.out h, HS.out⟩
                      case measure => simp [intOf]; omega
                  · obtain rfl : j = k := by omega
                    have HX := hide (show (List.range (i + 1)).foldl (dFrom fss t) dT = d from by
                      rw [range_snoc_fold, ← HDF.out, HD.out]
                      unfold dFrom
                      rw [if_pos HAA.out, HLEN.out])
                    have HS := hide hS
                    clear hS hrow hdl
                    go_wp2_with fail
                    go_roundw
                    case rel => exact ⟨i + 1, d, by omega, by go_num, by rw [HX.out]; rfl, HS.out⟩
                    case measure => simp [intOf]; omega
                · obtain rfl : j = 0 := HJ.out hA
                  have hdd : d = dF := by rw [HD.out]; rfl
                  subst hdd
                  have HX := hide (show (List.range (i + 1)).foldl (dFrom fss t) dT = d from by
                    rw [range_snoc_fold, ← HDF.out]
                    unfold dFrom
                    rw [if_neg hA])
                  rw [hgdi] at hA
                  obtain ⟨y, hy⟩ : ∃ y, d[i]'(by omega) = y := ⟨_, rfl⟩
                  rw [hy] at fi1 hA
                  have k1 : (y == (t : Int)) = false := by simp [hA]
                  have HS := hide hS
                  clear hS hrow hdl hgdi hA hy
                  go_wp2_with fail
                  go_roundw
                  case rel => exact ⟨i + 1, d, by omega, by go_num, by rw [HX.out]; rfl, HS.out⟩
                  case measure => simp [intOf]; omega
            · obtain rfl : i = k := by omega
              have HX := hide (show (List.range (t + 1)).foldl (dTurn fss) (d0 fss roots) = dF from by
                rw [range_snoc_fold, ← HDT.out, HDF.out]
                unfold dTurn
                rw [HLEN.out])
              have HS := hide hS
              clear hS
              go_wp2_with fail
              go_roundw
              case rel => exact ⟨t + 1, dF, by omega, by go_num, by rw [HX.out]; rfl, HS.out⟩
              case measure => simp [intOf]; omega
        · obtain rfl : t = k := by omega
          have HX := hide (show distR fss roots = dT from by unfold distR; rw [HLEN.out]; exact HDT.out.symm)
          have HS := hide hS
          clear hS
          go_wp2_with fail
          go_ret
          first
            | exact ⟨_, _, rfl, by rw [HX.out]; exact HS.out.sub (by simp)⟩
            | exact ⟨some ⟨w.heap.size + 1, 0, none⟩, t, rfl, by rw [HX.out]; exact HS.out.sub (by simp)⟩
end Go.Proofs.Ytjphckfbbiehdaa

namespace Go.Proofs.Ytjphckfbbiehdaa
open Go.RowKit
def upTo (d : List Int) (k : Nat) : List Int := ((List.range k).filter fun (i : Nat) => decide (0 ≤ d.getD i 0)).map fun (i : Nat) => (i : Int)
theorem upTo_succ (d : List Int) (k : Nat) : upTo d (k + 1) = upTo d k ++ if 0 ≤ d.getD k 0 then [(k : Int)] else [] := by
  unfold upTo
  rw [List.range_succ, List.filter_append, List.map_append]
  congr 1
  by_cases h : 0 ≤ d.getD k 0
  · rw [if_pos h, List.filter_cons_of_pos (by simpa using h)]; rfl
  · rw [if_neg h, List.filter_cons_of_neg (by simpa using h)]; rfl
theorem distR_len (gs : List (List Val)) (vs : List Val) : (distR gs vs).length = gs.length := by unfold distR; rw [dTurns_len, d0_len]
set_option maxRecDepth 100000 in
set_option maxHeartbeats 4000000 in
theorem reach_any (w : World) (v : Value) (fss : List (List Val)) (roots : List Val) (h : GraphRd w (fun _ => True) v fss roots) (hn : fss.length ≤ 1000) (hr : roots.length ≤ 1000) (hf : ∀ fs ∈ fss, fs.length ≤ 1000) :
    Calls Try.prog 191 #[v] w fun e w' => ∃ A n c, e = .returned (.slice A n c) ∧ Sep No w w' [rowI 3 1 A n c (ints (reachR fss roots))] := by
  have h0 := h
  obtain ⟨AO, nO, cO, AR, nR, cR, obs, rfl, hO, h3, hR⟩ := h.ex
  have hlen : fss.length = nO := by rw [← h3, List.length_map]; exact hO.len
  have HLEN := hide hlen
  have HS0 := hide ((Sep.nil No w).blkAt 27 #[.slice AO nO cO, .slice AR nR cR] rfl)
  obtain ⟨a1, a2, a3, a4⟩ := HS0.out.rules 0 (g := w.heap.size) (t := 27) rfl
  have C := hide (dist_any (w.alloc (.cells #[.slice AO nO cO, .slice AR nR cR] 27)) _ fss roots (h0.below HS0.out.below_) hn hr hf)
  rw [hlen] at C hn
  have HDL := hide (show (distR fss roots).length = nO from by rw [distR_len]; exact hlen)
  have HRR := hide (show reachR fss roots = upTo (distR fss roots) nO from by unfold reachR upTo; rw [hlen])
  obtain ⟨d, hd⟩ : ∃ d, distR fss roots = d := ⟨_, rfl⟩
  rw [hd] at C HDL HRR
  clear h h0 hO h3 hR hr hf hlen hd
  go_enter Try.func191, Try.ntmps191
  go_wp2_with fail
  refine C.out.mono ?_
  rintro e w1 ⟨A1, c1, rfl, hP⟩
  have hS1 := ((HS0.out.snocNew hP.below_ _ (hP.get 0 rfl) (fun g hg => (hP.lo 0 rfl g hg).resolve_left (fun h => h))).nilRow0 3 1)
  have HS1 := hide hS1
  clear a1 a2 a3 a4 hS1 HS0 hP C
  go_wp2_with fail
  go_loopw [3, 9] (fun s3 s wr => ∃ (k m : Nat) (A : Option Addr) (c : Nat), k ≤ nO ∧ s = .int .i64 k ∧ s3 = .slice A m c ∧ m ≤ k ∧ Sep No w wr [rowI 3 1 A m c (ints (upTo d k)), blkI w.heap.size 27 #[.slice AO nO cO, .slice AR nR cR], rowI 3 1 A1 nO c1 (ints d)]) (fun _ s _ => nO - (intOf s).toNat)
  case atStart => exact ⟨0, 0, none, 0, by omega, rfl, rfl, by omega, HS1.out⟩
  case round =>
    clear HS1
    obtain ⟨k, m, A, c, hk, rfl, rfl, hm, hS⟩ := hrel
    by_cases hlt : k < nO
    · have hkl : k < d.length := by rw [HDL.out]; exact hlt
      obtain ⟨ad, hA, _, had, hc⟩ := (hS.rd_ 2 rfl).at_ hlt
      have e0 := hc (.int .i64 d[k]) (by simp [ints, List.getElem?_eq_getElem hkl])
      have HU := hide (upTo_succ d k)
      rw [getD_get hkl] at HU
      obtain ⟨y, hy⟩ : ∃ y, d[k] = y := ⟨_, rfl⟩
      rw [hy] at e0 HU
      rw [hA]
      have HA := hide hA
      have HS := hide hS
      clear hc hy hA hS
      by_cases h0 : 0 ≤ y
      · have k1 : decide (0 ≤ y) = true := by simp [h0]
        have HU2 := hide (show upTo d (k + 1) = upTo d k ++ [(k : Int)] from by rw [HU.out, if_pos h0])
        have hS := HS.out
        clear h0
        go_wp2_with (first
          | (at_builtin
             refine wpList_app1 (cs := #[.int .i64 k]) rfl (.tmp 16) (.tmp 18) 35 rfl sInt hS 0 (n := m) rfl rfl rfl (by simp) rfl rfl (by omega) ?_
             intro A4 c4 w4 hS4 hC4))
        go_roundw
        case rel => exact ⟨k + 1, m + 1, A4, c4, by omega, by go_num, rfl, by omega, by rw [HU2.out, ints_snoc_, ← HA.out]; exact hS4⟩
        case measure => simp [intOf]; omega
      · have k1 : decide (0 ≤ y) = false := by simp only [h0, decide_false]
        have HU2 := hide (show upTo d (k + 1) = upTo d k from by rw [HU.out, if_neg h0, List.append_nil])
        clear h0
        go_wp2_with fail
        go_roundw
        case rel => exact ⟨k + 1, m, A, c, by omega, by go_num, rfl, by omega, by rw [HU2.out, ← HA.out]; exact HS.out⟩
        case measure => simp [intOf]; omega
    · obtain rfl : k = nO := by omega
      have HS := hide hS
      clear hS
      go_wp2_with fail
      go_ret
      exact ⟨A, m, c, rfl, by rw [HRR.out]; exact HS.out.sub (by simp)⟩
end Go.Proofs.Ytjphckfbbiehdaa

namespace Go.Proofs.Ytjphckfbbiehdaa
theorem seen1_mem (l : List Int) (v : Val) (h : v.1 = true) : v.2 ∈ seen1 l v := by
  unfold seen1
  by_cases h2 : v.2 ∈ l
  · rw [if_neg (by rintro ⟨_, h3⟩; exact h3 h2)]; exact h2
  · rw [if_pos ⟨h, h2⟩]; simp
theorem seenAll_mem (vs : List Val) : ∀ (l : List Int) (v : Val), v ∈ vs → v.1 = true → v.2 ∈ seenAll l vs := by
  induction vs with
  | nil => intro l v h; simp at h
  | cons a vs ih =>
    intro l v h h1
    rw [seenAll_cons]
    rcases List.mem_cons.1 h with rfl | h2
    · exact (seenAll_pre _ _).subset (seen1_mem _ _ h1)
    · exact ih _ v h2 h1
end Go.Proofs.Ytjphckfbbiehdaa
