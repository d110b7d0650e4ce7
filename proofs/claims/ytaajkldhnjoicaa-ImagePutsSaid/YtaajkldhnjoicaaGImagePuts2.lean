/- image: the reference's valuesOf and Put. The law ImagePuts: the walk. -/
import Derived.Test.YtaajkldhnjoicaaGImagePuts1
set_option linter.unusedSimpArgs false
set_option linter.unusedVariables false
namespace Go.Proofs.Ytaajkldhnjoicaa
open Go.RowKit

set_option maxRecDepth 100000 in
set_option maxHeartbeats 4000000 in
theorem valuesOf_any (w : World) (AL : Option Addr) (nL cL : Nat) (l : List Val) (hnl : nL ≤ 1000) (hl : Rd w (fun _ => True) 2 AL nL (vals l)) (hv : ∀ v ∈ l, ValOk v) :
    Calls Try.prog 65 #[.slice AL nL cL] w fun e w' => ∃ A' c', e = .returned (.slice A' (valsB l).length c') ∧ Sep No w w' [rowI 5 1 A' (valsB l).length c' (bys (valsB l))] := by
  have HLL := hide (show l.length = nL by have := hl.1; rw [vals_length] at this; omega)
  have HV := hide hv
  have C1 := hide (numR_any w nL (by omega) (by omega))
  have HNL := hide (numB_len nL)
  have HVB := hide (show valsB l = numB nL ++ l.flatMap valB by unfold valsB; rw [HLL.out])
  generalize numB nL = N at C1 HNL HVB
  clear hv
  go_enter Try.func65, Try.ntmps65
  go_wp2_with fail
  refine C1.out.mono ?_
  rintro e w1 ⟨A1, c1, rfl, hP1⟩
  have HS1 := hide hP1
  clear C1 hP1
  go_wp2_with fail
  go_loopw [3, 5, 6, 12] (fun s3 _ _ i wr => ∃ (k : Nat) (A' : Option Addr) (m c' : Nat), k ≤ nL ∧ i = .int .i64 k ∧ s3 = .slice A' m c' ∧ Hid (m ≤ 11 + 12 * k) ∧ Sep No w wr [rowI 5 1 A' m c' (bys (N ++ (l.take k).flatMap valB))]) (fun _ _ _ i _ => nL - (intOf i).toNat)
  case atStart => exact ⟨0, A1, N.length, c1, by omega, rfl, rfl, by have := HNL.out; show _ ≤ _; omega, by simpa using HS1.out⟩
  case round =>
    clear HS1
    obtain ⟨k, A', m, c', hk, rfl, rfl, hm, hS⟩ := hrel
    by_cases hlt : k < nL
    · have hkl : k < l.length := by rw [HLL.out]; exact hlt
      obtain ⟨ad, hA, _, had, hc, hd⟩ := (hl.below hS.below_).atN hlt
      obtain ⟨v0, v1⟩ := vals_at l k hkl
      have e0 := hc _ v0
      have e1 := hd 0 _ v1
      have HT := hide (List.take_succ_eq_append_getElem hkl)
      have hvk := HV.out _ (List.getElem_mem hkl)
      obtain ⟨x, hx⟩ : ∃ x, l[k] = x := ⟨_, rfl⟩
      rw [hx] at e0 e1 HT hvk
      subst hA
      clear hc hd v0 v1 hx
      obtain ⟨q, z⟩ := x
      dsimp only at e0 e1
      have C2 := hide (fun w => numR_any w z hvk.1 hvk.2)
      have HZL := hide (numB_len z)
      have HVZ := hide (show valB (q, z) = (if q = true then 1 else 0) :: numB z from rfl)
      generalize numB z = Z at C2 HZL HVZ
      have hmn := hm.out
      have HS5 := hide (hS.blkAt 86 #[.bool q, .int .i64 z] rfl)
      cases q with
      | false =>
        have HE := hide (show valB (false, z) = [0] ++ Z from by rw [HVZ.out]; rfl)
        clear HVZ
        go_wp2_with (first
          | (at_builtin
             refine wpList_app1 (cs := #[.int .u8 0]) rfl (.tmp 18) (.tmp 20) 26 rfl sByte HS5.out 0 (n := m) rfl rfl (by rfl) (by simp) rfl rfl (by omega) ?_
             intro A4 c4 w4 hS4 hC4
             obtain ⟨z1, z2, z3, z4⟩ := hS4.rules 1 (g := wr.heap.size) (t := 86) rfl
             (have z5 : w4.cell? ⟨wr.heap.size, 1, none⟩ = some (.int .i64 z) := by rw [z1]; rfl)
             clear z1))
        refine (C2.out _).mono ?_
        rintro e w5 ⟨A5, c5, rfl, hP5⟩
        have hS5 := sepNew hS4 hP5
        have hzl := HZL.out
        go_wp2_with (first
          | (at_builtin
             refine wpList_app rfl (.tmp 22) (.tmp 25) 26 rfl sByte hS5 0 (n := m + 1) rfl rfl rfl (hS5.rd_ 2 rfl) (bys_one Z) (by omega) ?_
             intro A6 c6 w6 hS6 hC6))
        go_roundw
        case rel =>
          refine ⟨k + 1, A6, _, c6, by omega, by go_num, rfl, by show _ ≤ _; omega, ?_⟩
          have hS7 := hS6.sub (List.take_sublist 1 _)
          rw [HT.out, flat_snoc, HE.out, ← List.append_assoc, ← List.append_assoc, bys_app, bys_app]
          exact hS7
        case measure => simp [intOf]; omega
      | true =>
        have HE := hide (show valB (true, z) = [1] ++ Z from by rw [HVZ.out]; rfl)
        clear HVZ
        go_wp2_with (first
          | (at_builtin
             refine wpList_app1 (cs := #[.int .u8 1]) rfl (.tmp 18) (.tmp 20) 26 rfl sByte HS5.out 0 (n := m) rfl rfl (by rfl) (by simp) rfl rfl (by omega) ?_
             intro A4 c4 w4 hS4 hC4
             obtain ⟨z1, z2, z3, z4⟩ := hS4.rules 1 (g := wr.heap.size) (t := 86) rfl
             (have z5 : w4.cell? ⟨wr.heap.size, 1, none⟩ = some (.int .i64 z) := by rw [z1]; rfl)
             clear z1))
        refine (C2.out _).mono ?_
        rintro e w5 ⟨A5, c5, rfl, hP5⟩
        have hS5 := sepNew hS4 hP5
        have hzl := HZL.out
        go_wp2_with (first
          | (at_builtin
             refine wpList_app rfl (.tmp 22) (.tmp 25) 26 rfl sByte hS5 0 (n := m + 1) rfl rfl rfl (hS5.rd_ 2 rfl) (bys_one Z) (by omega) ?_
             intro A6 c6 w6 hS6 hC6))
        go_roundw
        case rel =>
          refine ⟨k + 1, A6, _, c6, by omega, by go_num, rfl, by show _ ≤ _; omega, ?_⟩
          have hS7 := hS6.sub (List.take_sublist 1 _)
          rw [HT.out, flat_snoc, HE.out, ← List.append_assoc, ← List.append_assoc, bys_app, bys_app]
          exact hS7
        case measure => simp [intOf]; omega
    · obtain rfl : k = nL := by omega
      rw [show l.take k = l from List.take_of_length_le (by rw [HLL.out]; omega), ← HVB.out] at hS
      obtain rfl : m = (valsB l).length := by have := bys_row hS 0 rfl; exact this.symm
      go_wp2_with fail
      go_ret
      exact ⟨A', c', rfl, hS⟩

set_option maxRecDepth 100000 in
set_option maxHeartbeats 4000000 in
theorem refPut_any (w : World) (AO AR : Option Addr) (nO cO nR cR : Nat) (obs : List Ob) (roots : List Val) (hO : ObsRd w (fun _ => True) AO nO obs) (hR : Rd w (fun _ => True) 2 AR nR (vals roots)) (h1 : nO ≤ 24) (h2 : nR ≤ 8) (hv : ∀ o ∈ obs, o.n ≤ 4 ∧ ∀ v ∈ o.fields, ValOk v) (hvr : ∀ v ∈ roots, ValOk v) :
    Calls Try.prog 20 #[.agg #[.slice AO nO cO, .slice AR nR cR]] w fun e w' => ∃ A c, e = .returned (.slice A (textB obs roots).length c) ∧ Sep No w w' [rowI 5 1 A (textB obs roots).length c (bys (textB obs roots))] := by
  have hrl : roots.length = nR := by have := hR.1; rw [vals_length] at this; omega
  have HLL := hide hO.len
  have hS0 := (Sep.nil No w).blkAt 25 #[.slice AO nO cO, .slice AR nR cR] rfl
  have hB0 : Below w.heap.size w (w.alloc (.cells #[.slice AO nO cO, .slice AR nR cR] 25)) := (Below.refl _ w).alloc (Nat.le_refl _) _
  have C1 := hide (valuesOf_any (w.alloc (.cells #[.slice AO nO cO, .slice AR nR cR] 25)) AR nR cR roots (by omega) (hR.below hB0) hvr)
  have HVL := hide (show (valsB roots).length ≤ 107 by have := valsB_len roots; omega)
  have HOL := hide (show (objsB obs).length ≤ 1500 by have := objsB_len obs hO (fun o ho => (hv o ho).1); have := hO.len; omega)
  have HBY := hide (graphB_byte obs roots hO (by omega) (by omega) hvr (fun o ho => ⟨by have := (hv o ho).1; omega, (hv o ho).2⟩))
  have HG := hide (show graphB obs roots = valsB roots ++ numB nO ++ obs.flatMap fun o => valsB o.fields by unfold graphB objsB; rw [HLL.out, List.append_assoc])
  have HT := hide (show textB obs roots = graphB obs roots ++ [chk (graphB obs roots) % 256, chk (graphB obs roots) / 256] from rfl)
  have C2 := hide (fun w => numR_any w nO (by omega) (by omega))
  have HNL := hide (numB_len nO)
  have HV := hide hv
  have HFL := hide (fun o ho => hO.flen (o := o) ho)
  have HGL := hide (show (graphB obs roots).length ≤ 2000 by unfold graphB; rw [List.length_append]; have := HVL.out; have := HOL.out; omega)
  generalize numB nO = N at *
  generalize valsB roots = V at *
  generalize objsB obs = O at *
  generalize graphB obs roots = G at *
  generalize textB obs roots = T at *
  have HS0 := hide hS0
  obtain ⟨a1, a2, a3, a4⟩ := hS0.rules 0 rfl
  clear hS0 hB0 hR hv hvr hrl
  go_enter Try.func20, Try.ntmps20
  go_wp2_with fail
  refine C1.out.mono ?_
  rintro e w1 ⟨A1, c1, rfl, hP1⟩
  have hS1 := sepNew HS0.out hP1
  obtain ⟨b1, b2, b3, b4⟩ := hS1.rules 0 (g := w.heap.size) (t := 25) rfl
  clear a1 a2 a3 a4 hP1 C1 HS0
  go_wp2_with fail
  refine (C2.out w1).mono ?_
  rintro e w2 ⟨A2, c2, rfl, hP2⟩
  have hS2 := sepNew hS1 hP2
  have hvl := HVL.out
  have hnl := HNL.out
  clear b1 b2 b3 b4 hP2 C2 hS1
  obtain ⟨b1, b2, b3, b4⟩ := hS2.rules 0 (g := w.heap.size) (t := 25) rfl
  go_wp2_with (first
    | (at_builtin
       refine wpList_app rfl (.tmp 10) (.tmp 14) 26 rfl sByte hS2 1 (n := V.length) rfl rfl rfl (hS2.rd_ 2 rfl) (bys_one N) (by omega) ?_
       intro A4 c4 w4 hS4 hC4
       obtain ⟨z1, z2, z3, z4⟩ := hS4.rules 0 (g := w.heap.size) (t := 25) rfl
       clear b1 b2 b3 b4))
  have hS4' := hS4.sub (List.take_sublist 2 _)
  have HS4 := hide (show Sep No w w4 [blkI w.heap.size 25 #[.slice AO nO cO, .slice AR nR cR], rowI 5 1 A4 (V.length + N.length) c4 (bys (V ++ N))] from by rw [bys_app]; exact hS4')
  clear hS4'
  clear hS4 hS2 hC4
  clear z1 z2 z3 z4
  go_loopw [3, 5, 19] (fun s3 _ i wr => ∃ (k : Nat) (A' : Option Addr) (m c' : Nat), k ≤ nO ∧ i = .int .i64 k ∧ s3 = .slice A' m c' ∧ Hid (m ≤ 200 + 60 * k) ∧ Sep No w wr [blkI w.heap.size 25 #[.slice AO nO cO, .slice AR nR cR], rowI 5 1 A' m c' (bys (V ++ N ++ (obs.take k).flatMap fun o => valsB o.fields))]) (fun _ _ i _ => nO - (intOf i).toNat)
  case atStart => exact ⟨0, A4, V.length + N.length, c4, by omega, rfl, rfl, by show _ ≤ _; omega, by simpa using HS4.out⟩
  case round =>
    clear HS4
    obtain ⟨k, A', m, c', hk, rfl, rfl, hm, hS⟩ := hrel
    by_cases hlt : k < nO
    · have hkl : k < obs.length := by rw [HLL.out]; exact hlt
      have hO' := hO.below hS.below_
      obtain ⟨ad, hA, _, had, hc⟩ := hO'.row.at_ hlt
      have e0 := hc obs[k].val (by simp [List.getElem?_eq_getElem hkl])
      have HTK := hide (List.take_succ_eq_append_getElem hkl)
      have hvk := HV.out _ (List.getElem_mem hkl)
      have hfl := HFL.out _ (List.getElem_mem hkl)
      have hE := hO'.each _ (List.getElem_mem hkl)
      obtain ⟨o, ho⟩ : ∃ o, obs[k] = o := ⟨_, rfl⟩
      rw [ho] at e0 HTK hvk hE hfl
      have hVL := valsB_len o.fields
      have HVL2 := hide (show (valsB o.fields).length ≤ 59 by have := hvk.1; omega)
      have hB0 : Below wr.heap.size wr (wr.alloc (.cells #[o.val] 83)) := (Below.refl _ wr).alloc (Nat.le_refl _) _
      have C := hide (valuesOf_any (wr.alloc (.cells #[o.val] 83)) o.A o.n o.c o.fields (by omega) (hE.below hB0) hvk.2)
      have hS3 := hS.alloc (.cells #[o.val] 83)
      obtain ⟨b1, b2, b3, b4⟩ := hS.rules 0 (g := w.heap.size) (t := 25) rfl
      subst hA
      unfold Ob.val at *
      clear hc ho hE hB0 hVL hfl hO'
      go_wp2_with fail
      refine C.out.mono ?_
      rintro e w3 ⟨A3, c3, rfl, hP3⟩
      have hS5 := sepNew hS3 hP3
      have hv2 := HVL2.out
      have hmn := hm.out
      go_wp2_with (first
        | (at_builtin
           refine wpList_app rfl (.tmp 23) (.tmp 26) 26 rfl sByte hS5 1 (n := m) rfl rfl rfl (hS5.rd_ 2 rfl) (bys_one _) (by omega) ?_
           intro A6 c6 w6 hS6 hC6))
      go_roundw
      case rel =>
        refine ⟨k + 1, A6, _, c6, by omega, by go_num, rfl, ?_, ?_⟩
        · show _ ≤ _; omega
        · have hS7 := hS6.sub (List.take_sublist 2 _)
          rw [HTK.out, flat_snoc, ← List.append_assoc, bys_app]
          exact hS7
      case measure => simp [intOf]; omega
    · obtain rfl : k = nO := by omega
      rw [show obs.take k = obs from List.take_of_length_le (by rw [HLL.out]; omega), ← HG.out] at hS
      obtain rfl : m = G.length := by have := bys_row hS 1 rfl; exact this.symm
      obtain ⟨r1, r2⟩ := chk_range G
      have HC3 := hide (sumR_any wr _ A' G.length c' G (by have := HGL.out; omega) (hS.rd_ 1 rfl) HBY.out)
      have HTL := hide (show G.length + 2 = T.length by rw [HT.out, List.length_append]; rfl)
      obtain ⟨x, hx⟩ : ∃ x, chk G = x := ⟨_, rfl⟩
      rw [hx] at HC3 HT r1 r2
      have hgl := HGL.out
      clear hx hO
      go_wp2_with fail
      refine HC3.out.mono ?_
      rintro e w3 ⟨rfl, rfl⟩
      have k1 : IntKind.u8.wrap (x % 256) = x % 256 := by rw [IntKind.wrap_u8]; omega
      have k2 : IntKind.u8.wrap (x / 256) = x / 256 := by rw [IntKind.wrap_u8]; omega
      go_wp2_with (first
        | (at_builtin
           refine wpList_app rfl (.tmp 31) (.tmp 38) 26 rfl sByte (hS.alloc _) 1 (n := G.length) rfl rfl rfl (rd_news _ 5 #[.int .u8 (x % 256), .int .u8 (x / 256)]) (bys_one [x % 256, x / 256]) (by simp; omega) ?_
           intro A4 c4 w4 hS4 hC4))
      go_ret
      have hS5 := hS4.sub (List.drop_sublist 1 _)
      rw [← HTL.out]
      refine ⟨A4, c4, rfl, ?_⟩
      rw [HT.out, bys_app]
      exact hS5
end Go.Proofs.Ytaajkldhnjoicaa

namespace Go.Proofs.Ytaajkldhnjoicaa
open Go.RowKit

set_option maxRecDepth 100000 in
set_option maxHeartbeats 4000000 in
theorem imagePuts_bad (w : World) (AO AR : Option Addr) (nO cO nR cR : Nat) (n : Int) (obs : List Ob) (roots : List Val) (hO : ObsRd w (fun _ => True) AO nO obs) (hR : Rd w (fun _ => True) 2 AR nR (vals roots)) (n1 : -9223372036854775808 ≤ n) (n2 : n ≤ 9223372036854775807) (hz : gcheck nO nR obs roots ≠ 0) :
    Calls Try.prog 3 #[.agg #[.slice AO nO cO, .slice AR nR cR], .int .i64 n] w fun e w' => e = .returned (.bool true) ∧ Below w.heap.size w w' := by
  have hB0 : Below w.heap.size w (w.alloc (.cells #[.slice AO nO cO, .slice AR nR cR] 25)) := (Below.refl _ w).alloc (Nat.le_refl _) _
  have BA := hide (Blk.new w 25 #[.slice AO nO cO, .slice AR nR cR])
  have HB0 := hide hB0
  have C1 := hide (fun w' (hb : Below w.heap.size w w') => put_bad w' AO AR nO cO nR cR obs roots (hO.below hb) (hR.below hb) hz)
  have C2 := hide (fun w' => numP_any w' n n1 n2)
  have C3 := hide (fun w' => numR_any w' n n1 n2)
  have C4 := hide (fun w' (hb : Below w.heap.size w w') => refCheck_any w' AO AR nO cO nR cR obs roots (hO.below hb) (hR.below hb))
  have HNL := hide (numB_len n)
  generalize numB n = N at C2 C3 HNL
  obtain ⟨x, hx⟩ : ∃ x, gcheck nO nR obs roots = x := ⟨_, rfl⟩
  simp only [hx] at C1 C4
  rw [hx] at hz
  have y1 : (x != 0) = true := by rw [bne_iff_ne]; exact hz
  obtain ⟨a1, a2, a3⟩ := BA.out.rules
  clear hz hx hB0
  go_enter Try.func3, Try.ntmps3
  go_wp2_with fail
  refine (C1.out _ HB0.out).mono ?_
  rintro e w1 ⟨rfl, hb1⟩
  have HB1 := hide (HB0.out.trans (hb1.mono HB0.out.size))
  have BA1 := hide (BA.out.below_ hb1)
  clear hb1 HB0 BA C1 a1 a2 a3
  go_wp2_with fail
  refine (C2.out w1).mono ?_
  rintro e w2 ⟨A2, c2, rfl, hP2⟩
  have hb2 := hP2.below_
  have HB2 := hide (HB1.out.trans (hb2.mono HB1.out.size))
  have BA2 := hide (BA1.out.below_ hb2)
  have HL2 := hide (hP2.rd_ 0 rfl)
  clear hb2 hP2 HB1 BA1 C2
  go_wp2_with fail
  refine (C3.out w2).mono ?_
  rintro e w3 ⟨A3, c3, rfl, hP3⟩
  have hb3 := hP3.below_
  have HB3 := hide (HB2.out.trans (hb3.mono HB2.out.size))
  have BA3 := hide (BA2.out.below_ hb3)
  have C5 := hide (bytes_any w3 _ _ A2 A3 N.length c2 N.length c3 N N (by have := HNL.out; omega) (by have := HNL.out; omega) (HL2.out.below hb3) (hP3.rd_ 0 rfl))
  simp only [decide_true] at C5
  clear hb3 hP3 HB2 BA2 C3 HL2
  go_wp2_with fail
  refine C5.out.mono ?_
  rintro e w4 ⟨rfl, hb4⟩
  have HB4 := hide (HB3.out.trans (hb4.mono HB3.out.size))
  have BA4 := hide (BA3.out.below_ hb4)
  clear hb4 HB3 BA3 C5
  obtain ⟨a1, a2, a3⟩ := BA4.out.rules
  go_wp2_with fail
  refine (C4.out _ HB4.out).mono ?_
  rintro e w5 ⟨rfl, hb5⟩
  have HB5 := hide (HB4.out.trans (hb5.mono HB4.out.size))
  clear hb5 HB4 BA4 C4 a1 a2 a3
  go_wp2_with fail
  go_ret
  exact ⟨rfl, HB5.out⟩

set_option maxRecDepth 100000 in
set_option maxHeartbeats 4000000 in
theorem imagePuts_ok (w : World) (AO AR : Option Addr) (nO cO nR cR : Nat) (n : Int) (obs : List Ob) (roots : List Val) (hO : ObsRd w (fun _ => True) AO nO obs) (hR : Rd w (fun _ => True) 2 AR nR (vals roots)) (n1 : -9223372036854775808 ≤ n) (n2 : n ≤ 9223372036854775807) (hz : gcheck nO nR obs roots = 0) :
    Calls Try.prog 3 #[.agg #[.slice AO nO cO, .slice AR nR cR], .int .i64 n] w fun e w' => e = .returned (.bool true) ∧ Below w.heap.size w w' := by
  have hB0 : Below w.heap.size w (w.alloc (.cells #[.slice AO nO cO, .slice AR nR cR] 25)) := (Below.refl _ w).alloc (Nat.le_refl _) _
  have BA := hide (Blk.new w 25 #[.slice AO nO cO, .slice AR nR cR])
  have HB0 := hide hB0
  have hG := gok_of hO hz
  obtain ⟨v1, v2⟩ := gvals_ok hO hz
  have hrl : roots.length = nR := by have := hR.1; rw [vals_length] at this; omega
  have C1 := hide (fun w' (hb : Below w.heap.size w w') => put_ok w' AO AR nO cO nR cR obs roots (hO.below hb) (hR.below hb) hz)
  have C2 := hide (fun w' => numP_any w' n n1 n2)
  have C3 := hide (fun w' => numR_any w' n n1 n2)
  have C4 := hide (fun w' (hb : Below w.heap.size w w') => refCheck_any w' AO AR nO cO nR cR obs roots (hO.below hb) (hR.below hb))
  have C6 := hide (fun w' (hb : Below w.heap.size w w') => refPut_any w' AO AR nO cO nR cR obs roots (hO.below hb) (hR.below hb) hG.nO_ hG.nR_ v2 v1)
  have HNL := hide (numB_len n)
  have HTL := hide (show (textB obs roots).length ≤ 2002 by
    unfold textB graphB
    rw [List.length_append, List.length_append]
    have := valsB_len roots
    have := objsB_len obs hO hG.fl
    have := hG.nO_
    have := hG.nR_
    have := hO.len
    simp
    omega)
  rw [hz] at C4
  generalize numB n = N at C2 C3 HNL
  generalize textB obs roots = T at C1 C6 HTL
  obtain ⟨a1, a2, a3⟩ := BA.out.rules
  clear hz hB0 hG v1 v2 hrl
  go_enter Try.func3, Try.ntmps3
  go_wp2_with fail
  refine (C1.out _ HB0.out).mono ?_
  rintro e w1 ⟨A1, c1, rfl, hP1⟩
  have hb1 := hP1.below_
  have HB1 := hide (HB0.out.trans (hb1.mono HB0.out.size))
  have BA1 := hide (BA.out.below_ hb1)
  have HT1 := hide (hP1.rd_ 0 rfl)
  clear hb1 hP1 HB0 BA C1 a1 a2 a3
  go_wp2_with fail
  refine (C2.out w1).mono ?_
  rintro e w2 ⟨A2, c2, rfl, hP2⟩
  have hb2 := hP2.below_
  have HB2 := hide (HB1.out.trans (hb2.mono HB1.out.size))
  have BA2 := hide (BA1.out.below_ hb2)
  have HT2 := hide (HT1.out.below hb2)
  have HL2 := hide (hP2.rd_ 0 rfl)
  clear hb2 hP2 HB1 BA1 C2 HT1
  go_wp2_with fail
  refine (C3.out w2).mono ?_
  rintro e w3 ⟨A3, c3, rfl, hP3⟩
  have hb3 := hP3.below_
  have HB3 := hide (HB2.out.trans (hb3.mono HB2.out.size))
  have BA3 := hide (BA2.out.below_ hb3)
  have HT3 := hide (HT2.out.below hb3)
  have C5 := hide (bytes_any w3 _ _ A2 A3 N.length c2 N.length c3 N N (by have := HNL.out; omega) (by have := HNL.out; omega) (HL2.out.below hb3) (hP3.rd_ 0 rfl))
  simp only [decide_true] at C5
  clear hb3 hP3 HB2 BA2 C3 HL2 HT2
  go_wp2_with fail
  refine C5.out.mono ?_
  rintro e w4 ⟨rfl, hb4⟩
  have HB4 := hide (HB3.out.trans (hb4.mono HB3.out.size))
  have BA4 := hide (BA3.out.below_ hb4)
  have HT4 := hide (HT3.out.below hb4)
  clear hb4 HB3 BA3 C5 HT3
  obtain ⟨a1, a2, a3⟩ := BA4.out.rules
  go_wp2_with fail
  refine (C4.out _ HB4.out).mono ?_
  rintro e w5 ⟨rfl, hb5⟩
  have HB5 := hide (HB4.out.trans (hb5.mono HB4.out.size))
  have BA5 := hide (BA4.out.below_ hb5)
  have HT5 := hide (HT4.out.below hb5)
  clear hb5 HB4 BA4 C4 HT4 a1 a2 a3
  obtain ⟨a1, a2, a3⟩ := BA5.out.rules
  go_wp2_with fail
  refine (C6.out _ HB5.out).mono ?_
  rintro e w6 ⟨A6, c6, rfl, hP6⟩
  have hb6 := hP6.below_
  have HB6 := hide (HB5.out.trans (hb6.mono HB5.out.size))
  have C7 := hide (bytes_any w6 _ _ A1 A6 T.length c1 T.length c6 T T (by have := HTL.out; omega) (by have := HTL.out; omega) (HT5.out.below hb6) (hP6.rd_ 0 rfl))
  simp only [decide_true] at C7
  clear hb6 hP6 HB5 BA5 C6 HT5 a1 a2 a3
  go_wp2_with fail
  refine C7.out.mono ?_
  rintro e w7 ⟨rfl, hb7⟩
  have HB7 := hide (HB6.out.trans (hb7.mono HB6.out.size))
  clear hb7 HB6 C7
  go_wp2_with fail
  go_ret
  exact ⟨rfl, HB7.out⟩
theorem imagePuts_walk (w : World) (AO AR : Option Addr) (nO cO nR cR : Nat) (n : Int) (obs : List Ob) (roots : List Val) (hO : ObsRd w (fun _ => True) AO nO obs) (hR : Rd w (fun _ => True) 2 AR nR (vals roots)) (n1 : -9223372036854775808 ≤ n) (n2 : n ≤ 9223372036854775807) :
    Calls Try.prog 3 #[.agg #[.slice AO nO cO, .slice AR nR cR], .int .i64 n] w fun e w' => e = .returned (.bool true) ∧ Below w.heap.size w w' := by
  by_cases hz : gcheck nO nR obs roots = 0
  · exact imagePuts_ok w AO AR nO cO nR cR n obs roots hO hR n1 n2 hz
  · exact imagePuts_bad w AO AR nO cO nR cR n obs roots hO hR n1 n2 hz
end Go.Proofs.Ytaajkldhnjoicaa
