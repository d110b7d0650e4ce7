/- Marks: mark.Mark. Sweeping: blocks that join; the plain part. Sweeping: blocks; the reference's Blocks at equals; what Sweep's function does. -/
import Derived.Test.YtpbafmdebflbpaaGMarkTells17
import Derived.Test.YtpbafmdebflbpaaGMarkTells18
import Derived.Test.YtpbafmdebflbpaaGMarkTells3
import Derived.Test.YtpbafmdebflbpaaGMarkTells1
set_option linter.unusedSimpArgs false
set_option linter.unusedVariables false
namespace Go.Proofs.Ytpbafmdebflbpaa
open Go.RowKit

theorem perm_m6 {α : Type} (st v r a b m : α) : [st, v, r, a, b, m].Perm [v, st, m, r, a, b] := by
  classical
  rw [List.perm_iff_count]
  intro x
  simp only [List.count_cons, List.count_nil]
  omega
theorem perm_m3 {α : Type} (a b c : α) : [a, b, c].Perm [c, a, b] := by
  classical
  rw [List.perm_iff_count]
  intro x
  simp only [List.count_cons, List.count_nil]
  omega
/-- What an arena that may be has. -/
theorem good_arn {nW nR : Nat} {ws rs : List Int} {w : World} {AW AR : Option Addr} {cW cR : Nat} (hW : WsIn w AW nW cW ws) (hR : WsIn w AR nR cR rs) (hz : acheck nW nR ws rs = 0) : ∀ x ∈ rs ++ fieldsOf ws (parse nW ws 0).1, GoodW (parse nW ws 0).1 x := by
  obtain ⟨_, _, _, h4⟩ := acheck_zero hz
  have hG := good_of_check h4
  intro x hx
  have hb : 0 ≤ x ∧ x ≤ 18446744073709551615 := by
    rcases List.mem_append.1 hx with h | h
    · exact hR.wf x h
    · obtain ⟨p, _, hp⟩ := List.mem_flatMap.1 h
      exact hW.wf x (List.mem_of_mem_drop (List.mem_of_mem_take hp))
  exact ⟨hb.1, hb.2, hG.e x hx, hG.ix x hx⟩
theorem lev_root {pre : List (Nat × Nat)} {rs : List Int} {gs : List (List Val)} {x : Int} (hx : x ∈ rs) (hr : unR x = true) : ∃ k, Lev gs (rs.map (turnW (ixOf pre))) k (ixOf pre (unA x) : Int) := by
  refine ⟨0, .root _ (List.mem_map.2 ⟨x, hx, ?_⟩)⟩
  unfold turnW
  rw [hr]
  rfl
def MkAll (m : Nat) (ws : List Int) (pre : List (Nat × Nat)) (R : Nat) (Aw Ar As : Option Addr) (nw cw nr cr cs : Nat) (σ : MSt) (rs : List Int) (w : World) (AW AR : Option Addr) (cW cR : Nat) : List Item :=
  [allI (MkI m ws pre R Aw Ar As nw cw nr cr cs σ), rowI 24 1 Ar nr cr (u64s rs), blkI w.heap.size 55 #[.slice AW nw cW, .slice AR nr cR], blkI (w.heap.size + 1) 55 #[.slice none 0 0, .slice none 0 0]]

def MkAllB (m : Nat) (ws : List Int) (pre : List (Nat × Nat)) (R : Nat) (Aw Ar As : Option Addr) (nw cw nr cr cs : Nat) (σ : MSt) (rs : List Int) (w : World) (AW AR : Option Addr) (cW cR : Nat) (Ab : Option Addr) (cb : Nat) : List Item :=
  [allI (MkI m ws pre R Aw Ar As nw cw nr cr cs σ), rowI 24 1 Ar nr cr (u64s rs), blkI w.heap.size 55 #[.slice AW nw cW, .slice AR nr cR], blkI (w.heap.size + 1) 55 #[.slice none 0 0, .slice none 0 0], rowI 3 1 Ab pre.length cb (ints (placesOf pre))]

set_option maxRecDepth 100000 in
set_option maxHeartbeats 32000000 in
theorem mark_ok (w : World) (AW AR : Option Addr) (nW cW nR cR R : Nat) (ws rs : List Int) (hW : WsIn w AW nW cW ws) (hR : WsIn w AR nR cR rs) (hz : acheck nW nR ws rs = 0) (hR1 : 1 ≤ R) (hR2 : R ≤ 64) :
    Calls Try.prog 46 #[.agg #[.slice AW nW cW, .slice AR nR cR], .int .i64 R] w fun e w' => ∃ A c A' c', e = .returned (.tuple #[.agg #[.slice A nW c, .slice A' nR c'], .int .i64 0]) ∧
      Sep No w w' [rowI 24 1 A nW c (u64s (mkW ws (parse nW ws 0).1 (refS nW ws rs))), rowI 24 1 A' nR c' (u64s rs)] := by
  obtain ⟨h1, h2, h3, h4⟩ := acheck_zero hz
  have hok : ArnOk nW ws := ⟨hW.len, h1, fun x hx => (hW.wf x hx).1, h3⟩
  have hgood := good_arn hW hR hz
  have hgf : ∀ x ∈ fieldsOf ws (parse nW ws 0).1, GoodW (parse nW ws 0).1 x := fun x hx => hgood x (List.mem_append_right _ hx)
  have hgr : ∀ x ∈ rs, GoodW (parse nW ws 0).1 x := fun x hx => hgood x (List.mem_append_left _ hx)
  have hS0 := ((Sep.nil No w).blkAt 55 #[.slice AW nW cW, .slice AR nR cR] rfl).blkAt 55 #[.slice none 0 0, .slice none 0 0] (g := w.heap.size + 1) (by simp)
  obtain ⟨a1, a2, a3, a4⟩ := hS0.rules 0 (g := w.heap.size) (t := 55) rfl
  have HS0 := hide hS0
  have C1 := hide (arenaCheck_any _ AW AR nW cW nR cR ws rs (hW.below hS0.below_) (hR.below hS0.below_))
  rw [hz] at C1
  have C2 := hide (fun w' (hb : Below w.heap.size w w') => cleared_any w' AW AR nW cW nR cR ws rs (hW.below hb) (hR.below hb) hok h2)
  have C3 := hide (fun w' (hb : Below w.heap.size w w') => begins_any w' AW AR nW cW nR cR ws (hW.below hb) h1 h3)
  have VIS := hide (fun wr m Aw Ar As cw nr cr cs τ x hs hx hst => visit_any wr m R ws Aw Ar As nW cw nr cr cs τ x hs hok hx hR2 hst)
  have DR := hide (fun wr m Aw Ar As cw nr cr cs X τ hs hM => drain_any wr m R ws Aw Ar As nW cw nr cr cs (graphOf ws (parse nW ws 0).1) (rs.map (turnW (ixOf (parse nW ws 0).1))) X τ hs hok hgf hR2 hM (levN_arn _))
  have HEND := hide (fun σ h1 h2 h3 h4 i hi => marks_reach (nW := nW) (ws := ws) (rs := rs) (R := R) (σ := σ) hgr hgf h1 h2 h3 h4 i hi)
  have HLV := hide (levN_arn (nW := nW) (ws := ws) (rs.map (turnW (ixOf (parse nW ws 0).1))))
  have HG := hide (fld_good hgf)
  have HGR := hide hgr
  have HRL := hide hR.len
  have HRR := hide hR
  have HOBJ := hide (fun i hi => hok.obj (i := i) hi)
  have HFL := hide (fun i hi => hok.fld (i := i) hi)
  have HHEAD := hide (fun i hi S => hok.head (i := i) hi S)
  have HFIELD := hide (fun i j hi hj S => hok.field (i := i) (j := j) hi hj S)
  have HLEN := hide (fun S => hok.length S)
  have HOF := hide (fun i hi S => hok.ofRange (i := i) hi S)
  have HREF := hide (show ∀ i, refS nW ws rs i = decide ((i : Int) ∈ reachR (graphOf ws (parse nW ws 0).1) (rs.map (turnW (ixOf (parse nW ws 0).1)))) from fun i => rfl)
  have HROOT := hide (fun x (hx : x ∈ rs) hr => lev_root (pre := (parse nW ws 0).1) (gs := graphOf ws (parse nW ws 0).1) hx hr)
  obtain ⟨Sref, hSref⟩ : ∃ S, refS nW ws rs = S := ⟨_, rfl⟩
  rw [hSref] at HREF ⊢
  obtain ⟨pre, hpre⟩ : ∃ pre, (parse nW ws 0).1 = pre := ⟨_, rfl⟩
  rw [hpre] at C2 C3 VIS DR HEND HLV HG HGR HOBJ HFL HHEAD HFIELD HLEN HOF HREF HROOT ⊢
  obtain ⟨gs, hgs⟩ : ∃ gs, graphOf ws pre = gs := ⟨_, rfl⟩
  rw [hgs] at DR HEND HLV HREF HROOT
  obtain ⟨vs, hvs⟩ : ∃ vs, rs.map (turnW (ixOf pre)) = vs := ⟨_, rfl⟩
  rw [hvs] at DR HEND HLV HREF HROOT
  have HREFC := hide (fun (S : Nat → Bool) h => mkW_congr ws pre (S := S) (T := Sref) h)
  have k1 : decide ((R : Int) < 1) = false := by simp; omega
  have k2 : decide ((64 : Int) < R) = false := by simp; omega
  clear hS0 hz h3 h4 hok hgood hgf hgr hSref hpre hgs hvs hR hW
  go_enter Try.func46, Try.ntmps46
  go_wp2_with fail
  refine C1.out.mono ?_
  rintro e w1 ⟨rfl, hb1⟩
  have hS1 := HS0.out.below hb1
  clear a1 a2 a3 a4 C1
  obtain ⟨a1, a2, a3, a4⟩ := hS1.rules 0 (g := w.heap.size) (t := 55) rfl
  have HS1 := hide hS1
  clear hS1 HS0
  go_wp2_with fail
  refine (C2.out _ HS1.out.below_).mono ?_
  rintro e w2 ⟨Aw, cw, Ar, cr, rfl, hP⟩
  have hS2 := HS1.out.snocNew hP.below_ (allI [rowI 24 1 Aw nW cw (u64s (mkW ws pre (fun _ => false))), rowI 24 1 Ar nR cr (u64s rs)]) ⟨hP.all, hP.apart⟩ (fun g ⟨i, hi, hg⟩ => (hP.own i hi g hg).resolve_left (fun h => h))
  have hS3 := (hS2.perm (perm_m3 _ _ _)).split
  have hS4 : Sep No w (w2.alloc (.cells #[.slice Aw nW cw, .slice Ar nR cr, .slice none 0 0, .int .i64 R, .bool false] 152)) (MkAll w2.heap.size ws pre R Aw Ar none nW cw nR cr 0 ⟨fun _ => false, [], false⟩ rs w AW AR cW cR) :=
    Sep.join (l := [_, _, _]) (((hS3.blk 152 #[.slice Aw nW cw, .slice Ar nR cr, .slice none 0 0, .int .i64 R, .bool false]).nilRow0 3 1).perm (perm_m6 _ _ _ _ _ _))
  have HS4 := hide hS4
  obtain ⟨q1, q2, q3, q4⟩ := hS4.rules 2 (g := w.heap.size) (t := 55) rfl
  have q5 := q1 1
  clear a1 a2 a3 a4 hP hS2 hS3 hS4 HS1 C2 q1 q4
  go_wp2_with fail
  go_loopw [35] (fun k wr => ∃ (j : Nat) (σ : MSt) (As : Option Addr) (cs : Nat), j ≤ nR ∧ k = .int .i64 j ∧ Hid (MIn ws pre gs vs R (fun _ => True) ⟨fun _ => false, [], false⟩ σ rs j) ∧ Hid (σ.st = []) ∧ Sep No w wr (MkAll w2.heap.size ws pre R Aw Ar As nW cw nR cr cs σ rs w AW AR cW cR)) (fun k _ => nR - (intOf k).toNat)
  case atStart => exact ⟨0, _, _, _, by omega, rfl, ⟨MOk.start _ _ _ _ _ _, Gro.refl _ _, by simp⟩, rfl, HS4.out⟩
  case round =>
    clear HS4 q2 q3 q5
    obtain ⟨j, σ, As, cs, hj, rfl, HIN, HST, hS⟩ := hrel
    by_cases hlj : j < nR
    · have hjl : j < rs.length := by rw [HRL.out]; exact hlj
      obtain ⟨ad, hA, _, had, hc⟩ := (HRR.out.below hS.below_).rd.at_ hlj
      have e0 := hc (.int .u64 rs[j]) (by simp [u64s, List.getElem?_eq_getElem hjl])
      have HTK := hide (List.take_succ_eq_append_getElem hjl)
      have hmem := List.getElem_mem hjl
      have hgx := HGR.out _ hmem
      have hlx := HROOT.out _ hmem
      obtain ⟨x, hx⟩ : ∃ x, rs[j] = x := ⟨_, rfl⟩
      rw [hx] at e0 HTK hgx hlx
      have HIN2 := hide (HIN.out.next HTK.out hgx hlx)
      have C := hide (VIS.out wr w2.heap.size Aw Ar As cw nR cr cs σ x (hS.get 0 rfl) hgx HIN.out.ok.room)
      have DRc := hide (fun w' A3 c3 hs => DR.out w' w2.heap.size Aw Ar A3 cw nR cr c3 (fun _ => True) (vis pre R σ x) hs HIN2.out.ok)
      rw [hA]
      have HS := hide hS
      have HA := hide hA
      clear hS hmem hgx hlx hx HTK hc hjl HIN hA
      go_wp2_with fail
      refine C.out.mono ?_
      rintro e w6 ⟨A3, c3, ⟨v, rfl⟩, hP⟩
      have hS6 : Sep No w w6 (MkAll w2.heap.size ws pre R Aw Ar A3 nW cw nR cr c3 (vis pre R σ x) rs w AW AR cW cR) := HS.out.call 0 rfl hP
      have C6 := hide (DRc.out w6 A3 c3 (hS6.get 0 rfl))
      have HS6 := hide hS6
      clear hP HS C hS6 e0 had DRc
      go_wp2_with fail
      refine C6.out.mono ?_
      rintro e w7 ⟨υ, A4, c4, ⟨v, rfl⟩, hm4, hg4, hst4, hP⟩
      have hS7 : Sep No w w7 (MkAll w2.heap.size ws pre R Aw Ar A4 nW cw nR cr c4 υ rs w AW AR cW cR) := HS6.out.call 0 rfl hP
      have HS7 := hide hS7
      have HIN3 := hide (HIN2.out.go hm4 hg4)
      have HST3 := hide hst4
      clear hP HS6 C6 hS7 hm4 hg4 hst4 HIN2 HST
      go_wp2_with fail
      go_roundw
      case rel => exact ⟨j + 1, υ, A4, c4, by omega, by go_num, HIN3, HST3, by first | exact HS7.out | (have h9 := HS7.out; rw [HA.out] at h9; exact h9)⟩
      case measure => simp [intOf]; omega
    · obtain rfl : j = nR := by omega
      have HMK := hide HIN.out.ok
      have HSEEN := hide (show ∀ x ∈ rs, unR x = true → σ.S (ixOf pre (unA x)) = true from fun x hx hr => HIN.out.seen x (by rw [List.take_of_length_le (by rw [HRL.out]; omega)]; exact hx) hr)
      have HS := hide hS
      clear hS HIN hlj
      go_wp2_with fail
      go_loopg [11] (unm pre.length σ.S + (if σ.lost = true then 1 else 0)) (fun n p wr => ∃ (τ : MSt) (As : Option Addr) (cs : Nat), n = unm pre.length τ.S + (if τ.lost = true then 1 else 0) ∧ Hid (MOk ws pre gs vs R (fun _ => True) τ) ∧ Hid (∀ x ∈ rs, unR x = true → τ.S (ixOf pre (unA x)) = true) ∧ Hid (τ.st = []) ∧ Sep No w wr (MkAll w2.heap.size ws pre R Aw Ar As nW cw j cr cs τ rs w AW AR cW cR))
      case atStart => exact ⟨σ, As, cs, rfl, HMK, HSEEN, HST, HS.out⟩
      case round =>
        clear HS HMK HSEEN HST
        obtain ⟨τ, As, cs, hgk, HMK, HSEEN, HST, hS⟩ := hrel
        have hS' := hS.split
        obtain ⟨b1, b2, b3, b4⟩ := hS'.rules 2 (g := w2.heap.size) (t := 152) rfl
        have b5 : wr.cell? ⟨w2.heap.size, 4, none⟩ = some (.bool τ.lost) := by rw [b1]; rfl
        cases hl : τ.lost with
        | false =>
          rw [hl] at b5
          have b6 : wr.cell? ⟨w2.heap.size, 0, none⟩ = some (.slice Aw nW cw) := by rw [b1]; rfl
          have b7 : wr.cell? ⟨w2.heap.size, 1, none⟩ = some (.slice Ar j cr) := by rw [b1]; rfl
          obtain ⟨z1, z2, z3, z4⟩ := hS'.rules 5 (g := w.heap.size + 1) (t := 55) rfl
          have HE := hide (HREFC.out τ.S (fun i hi => (HEND.out τ HMK.out hl HST.out HSEEN.out i hi).trans (HREF.out i).symm))
          have hF := ((hS'.set_ 5 (g := w.heap.size + 1) (t := 55) rfl 0 (.slice Aw nW cw)).set_ 5 (g := w.heap.size + 1) (t := 55) rfl 1 (.slice Ar j cr))
          have HF := hide hF
          clear hS hS' b1 b4 z4 hgk hF
          go_wp2_with fail
          have h9 := HF.out.sub (l := [rowI 24 1 Aw nW cw (u64s (mkW ws pre τ.S)), rowI 24 1 Ar j cr (u64s rs)]) (by simp [MkI, MkAll])
          rw [HE.out] at h9
          refine bodyPost_ret (v := .tuple #[.agg #[.slice Aw nW cw, .slice Ar j cr], .int .i64 0]) (by simp [results, Try.results46, go_sem, z1]) rfl ⟨_, _, _, _, rfl, h9⟩
        | true =>
          rw [hl] at b5 hgk
          have hS1 : Sep No w (wr.setCell ⟨w2.heap.size, 4, none⟩ (.bool false)) (MkAll w2.heap.size ws pre R Aw Ar As nW cw j cr cs ⟨τ.S, [], false⟩ rs w AW AR cW cR) := by
            have h := hS'.set_ 2 (g := w2.heap.size) (t := 152) rfl 4 (.bool false)
            unfold MkI at h
            rw [HST.out] at h
            exact Sep.join (l := [_, _, _]) h
          have HM0 := hide (HMK.out.again HST.out)
          have H1 := hide (show gk = unm pre.length τ.S + 1 from hgk)
          obtain ⟨q1, q2, q3, q4⟩ := hS1.rules 2 (g := w.heap.size) (t := 55) rfl
          have q5 := q1 0
          have q6 := q1 1
          have C := hide (C3.out _ hS1.below_)
          have HS1 := hide hS1
          clear hS hS' hS1 b1 b4 q1 q4 hgk HMK
          go_wp2_with fail
          refine C.out.mono ?_
          rintro e w5 ⟨Ab, nb, cb, rfl, hnb, hP⟩
          have hnl : nb = pre.length := by have := (hP.rd_ 0 rfl).1; simp [placesOf] at this; omega
          subst hnl
          have hS5 : Sep No w w5 (MkAllB w2.heap.size ws pre R Aw Ar As nW cw j cr cs ⟨τ.S, [], false⟩ rs w AW AR cW cR Ab cb) :=
            HS1.out.snocNew hP.below_ _ (hP.get 0 rfl) (fun g hg => (hP.lo 0 rfl g hg).resolve_left (fun h => h))
          have HS5 := hide hS5
          clear C HS1 hP hS5 q2 q3 q5 q6 b2 b3 b5
          go_wp2_with fail
          go_loopw [55] (fun k wx => ∃ (i : Nat) (υ : MSt) (As : Option Addr) (cs : Nat), i ≤ pre.length ∧ k = .int .i64 i ∧ Hid (MOk ws pre gs vs R (fun a => a < i) υ) ∧ Hid (Gro pre.length ⟨τ.S, [], false⟩ υ) ∧ Hid (υ.st = []) ∧ Sep No w wx (MkAllB w2.heap.size ws pre R Aw Ar As nW cw j cr cs υ rs w AW AR cW cR Ab cb)) (fun k _ => pre.length - (intOf k).toNat)
          case atStart => exact ⟨0, _, _, _, by omega, rfl, HM0, Gro.refl _ _, rfl, HS5.out⟩
          case round =>
            clear HS5 HM0
            obtain ⟨i, υ, As, cs, hi, rfl, HMK, HGR2, HST2, hS⟩ := hrel
            by_cases hli : i < pre.length
            · obtain ⟨ad, hA, _, had, hc⟩ := (hS.rd_ 4 rfl).at_ hli
              have e0 := hc (.int .i64 (plcN pre i)) (by rw [← plc_get hli]; simp [placesOf, List.getElem?_eq_getElem hli])
              obtain ⟨o1, o2, o3, o4, o5, o6, o7⟩ := HOBJ.out i hli
              have hS' := hS.split
              obtain ⟨b1, b2, b3, b4⟩ := hS'.rules 2 (g := w2.heap.size) (t := 152) rfl
              have b5 := b1 0
              have hrowW : wr.ownsRow 0 24 1 (.slice Aw nW cw) nW (u64s (mkW ws pre υ.S)) := hS'.get 0 rfl
              obtain ⟨g, hAw⟩ := own_addr hrowW (by omega)
              have hcw := own_cap hrowW
              subst hAw
              subst hA
              have MB := (mark_bits (len := (lenN pre i : Int)) (a := ageN ws pre i) (by omega) (by omega) o6 o7 (υ.S i)).2.2
              have f0 : wr.cell? ⟨g, plcN pre i, none⟩ = some (.int .u64 (headW (lenN pre i : Int) (υ.S i) (ageN ws pre i))) := by
                rw [hrowW.cellAt _ (by omega), u64s_get, HHEAD.out i hli]; rfl
              have hhp := head_parts_ (len := (lenN pre i : Int)) (a := ageN ws pre i) (by omega) (by omega) o6 o7 (υ.S i)
              obtain ⟨at_, hat⟩ : ∃ at_, plcN pre i = at_ := ⟨_, rfl⟩
              obtain ⟨len, hln⟩ : ∃ len, lenN pre i = len := ⟨_, rfl⟩
              obtain ⟨hw, hhw⟩ : ∃ hw, headW (lenN pre i : Int) (υ.S i) (ageN ws pre i) = hw := ⟨_, rfl⟩
              rw [hat] at e0 f0 o1 o4
              rw [hhw] at f0 MB hhp
              rw [hln] at o4 o5
              have C := hide (fieldsAt_any wr g nW cw at_ len hw f0 ⟨hhp.2.2.2.2.1, hhp.2.2.2.2.2⟩ h1 hcw.1 hcw.2 hhp.2.2.2.1 (by rw [hhp.1, hln]) o4)
              cases hsi : υ.S i with
              | false =>
                rw [hsi] at MB
                simp only [Bool.false_eq_true, if_false] at MB
                have CB := hide (bit_any wr hw 0 MB)
                have HMK2 := hide (HMK.out.weak (Y := fun a => a < i + 1) (fun a _ hs ha => by
                  rcases Nat.lt_or_ge a i with h | h
                  · exact h
                  · obtain rfl : a = i := by omega
                    rw [hsi] at hs; cases hs))
                have HS := hide hS
                clear hS hS' b1 b4 hrowW hhp MB hc o2 o3 o6 o7 C hcw hsi
                go_wp2_with fail
                refine CB.out.mono ?_
                rintro e w6 ⟨rfl, rfl⟩
                go_wp2_with fail
                go_roundw
                case rel => exact ⟨i + 1, υ, As, cs, by omega, by go_num, HMK2, HGR2, HST2, HS.out⟩
                case measure => simp [intOf]; omega
              | true =>
                rw [hsi, if_pos rfl] at MB
                have CB := hide (bit_any wr hw 256 MB)
                have HFLi := hide ((HFL.out i hli).trans hln)
                have HSI := hide hsi
                have HS := hide hS
                clear hS hS' b1 b4 hrowW hhp MB hc o2 o3 o6 o7 hsi
                go_wp2_with fail
                refine CB.out.mono ?_
                rintro e w6 ⟨rfl, rfl⟩
                go_wp2_with fail
                refine C.out.mono ?_
                rintro e w7 ⟨Af, cf, rfl, hb7, hAf⟩
                have HS7 := hide (HS.out.below hb7)
                clear C CB HS hb7 b2 b3 b5 e0 f0 had
                go_wp2_with fail
                go_loopw [76] (fun k wy => ∃ (p : Nat) (φ : MSt) (As : Option Addr) (cs : Nat), p ≤ len ∧ k = .int .i64 p ∧ Hid (MIn ws pre gs vs R (fun a => a < i) υ φ (fldN ws pre i) p) ∧ Hid (φ.st = []) ∧ Sep No w wy (MkAllB w2.heap.size ws pre R (some ⟨g, 0, none⟩) Ar As nW cw j cr cs φ rs w AW AR cW cR (some ad) cb)) (fun k _ => len - (intOf k).toNat)
                case atStart => exact ⟨0, _, _, _, by omega, rfl, ⟨HMK.out, Gro.refl _ _, by simp⟩, HST2, HS7.out⟩
                case round =>
                  clear HS7
                  obtain ⟨p, φ, As, cs, hp, rfl, HIN, HST3, hS⟩ := hrel
                  by_cases hlp : p < len
                  · have hjl : p < (fldN ws pre i).length := by rw [HFLi.out]; exact hlp
                    have hrowW : wr.ownsRow 0 24 1 (.slice (some ⟨g, 0, none⟩) nW cw) nW (u64s (mkW ws pre φ.S)) := hS.split.get 0 rfl
                    have hfd := HFIELD.out i p hli (by omega) φ.S
                    rw [hat, List.getElem?_eq_getElem hjl] at hfd
                    have f0 : wr.cell? ⟨g, at_ + 1 + p, none⟩ = some (.int .u64 (fldN ws pre i)[p]) := by
                      rw [hrowW.cellAt (at_ + 1 + p) (by omega), u64s_get, hfd]; rfl
                    have HTK := hide (List.take_succ_eq_append_getElem hjl)
                    have hmem := List.getElem_mem hjl
                    have hgx := HG.out i hli _ hmem
                    have hlx := HLV.out i hli (HIN.out.ok.sound i hli (HIN.out.gro.mono i HSI.out)) _ hmem
                    obtain ⟨x, hx⟩ : ∃ x, (fldN ws pre i)[p] = x := ⟨_, rfl⟩
                    rw [hx] at f0 HTK hgx hlx
                    have HIN2 := hide (HIN.out.next HTK.out hgx hlx)
                    have C := hide (VIS.out wr w2.heap.size _ Ar As cw j cr cs φ x (hS.get 0 rfl) hgx HIN.out.ok.room)
                    have DRc := hide (fun w' A3 c3 hs => DR.out w' w2.heap.size (some ⟨g, 0, none⟩) Ar A3 cw j cr c3 (fun a => a < i) (vis pre R φ x) hs HIN2.out.ok)
                    have hAf2 := hAf (by omega)
                    subst hAf2
                    have HS := hide hS
                    clear hS hrowW hfd hmem hgx hlx hx HTK HIN hjl
                    go_wp2_with fail
                    refine C.out.mono ?_
                    rintro e w8 ⟨A3, c3, ⟨v, rfl⟩, hP⟩
                    have hS8 : Sep No w w8 (MkAllB w2.heap.size ws pre R (some ⟨g, 0, none⟩) Ar A3 nW cw j cr c3 (vis pre R φ x) rs w AW AR cW cR (some ad) cb) := HS.out.call 0 rfl hP
                    have C6 := hide (DRc.out w8 A3 c3 (hS8.get 0 rfl))
                    have HS8 := hide hS8
                    clear hP HS C hS8 DRc f0
                    go_wp2_with fail
                    refine C6.out.mono ?_
                    rintro e w9 ⟨ψ, A4, c4, ⟨v, rfl⟩, hm4, hg4, hst4, hP⟩
                    have hS9 : Sep No w w9 (MkAllB w2.heap.size ws pre R (some ⟨g, 0, none⟩) Ar A4 nW cw j cr c4 ψ rs w AW AR cW cR (some ad) cb) := HS8.out.call 0 rfl hP
                    have HS9 := hide hS9
                    have HIN3 := hide (HIN2.out.go hm4 hg4)
                    have HST4 := hide hst4
                    clear hP HS8 C6 hS9 hm4 hg4 hst4 HIN2 HST3
                    go_wp2_with fail
                    go_roundw
                    case rel => exact ⟨p + 1, ψ, A4, c4, by omega, by go_num, HIN3, HST4, HS9.out⟩
                    case measure => simp [intOf]; omega
                  · obtain rfl : p = len := by omega
                    have HM3 := hide ((HIN.out.ok.weak (Y := fun a => a < i + 1 ∧ a ≠ i) (fun a _ _ ha => by omega)).done (X := fun a => a < i + 1) (fun x hx hr => HIN.out.seen x (by rw [List.take_of_length_le (by rw [HFLi.out]; omega)]; exact hx) hr))
                    have HGR3 := hide (Gro.trans HGR2.out HIN.out.gro)
                    have HS := hide hS
                    clear HIN hS
                    go_wp2_with fail
                    go_roundw
                    case rel => exact ⟨i + 1, φ, As, cs, by omega, by go_num, HM3, HGR3, HST3, HS.out⟩
                    case measure => simp [intOf]; omega
            · obtain rfl : i = pre.length := by omega
              have HM3 := hide (HMK.out.weak (Y := fun _ => True) (fun a ha _ _ => ha))
              have HSEEN2 := hide (show ∀ x ∈ rs, unR x = true → υ.S (ixOf pre (unA x)) = true from fun x hx hr => HGR2.out.mono _ (HSEEN.out x hx hr))
              have H2 := hide (show unm pre.length υ.S + (if υ.lost = true then 1 else 0) < gk by
                have h1 := H1.out
                have h2 := HGR2.out.unm_
                have h3 := HGR2.out.lost
                dsimp only at h2 h3
                split
                · rename_i h4
                  rcases h3 h4 with h5 | h5
                  · cases h5
                  · omega
                · omega)
              have HS : Hid (Sep No w wr (MkAll w2.heap.size ws pre R Aw Ar As nW cw j cr cs υ rs w AW AR cW cR)) := hide (hS.sub (by simp [MkAll, MkAllB]))
              clear hS HMK HGR2 HSEEN H1
              go_wp2_with fail
              go_roundg (unm pre.length υ.S + (if υ.lost = true then 1 else 0))
              case measure => exact H2.out
              case rel => exact ⟨υ, As, cs, rfl, HM3, HSEEN2, HST2, HS.out⟩
end Go.Proofs.Ytpbafmdebflbpaa

namespace Go.Proofs.Ytpbafmdebflbpaa

/-! ### Sweeping. -/
def addB (l : List (Nat × Nat)) (a n : Nat) : List (Nat × Nat) :=
  match l.getLast? with
  | some p => if p.1 + p.2 = a then l.dropLast ++ [(p.1, p.2 + n)] else l ++ [(a, n)]
  | none => l ++ [(a, n)]
theorem addB_join {l : List (Nat × Nat)} {a n : Nat} {b m : Nat} (h : b + m = a) : addB (l ++ [(b, m)]) a n = l ++ [(b, m + n)] := by
  unfold addB
  rw [List.getLast?_concat, List.dropLast_concat]
  dsimp only
  rw [if_pos h]
theorem addB_new {l : List (Nat × Nat)} {a n : Nat} (h : ∀ p, l.getLast? = some p → p.1 + p.2 ≠ a) : addB l a n = l ++ [(a, n)] := by
  unfold addB
  split
  · rename_i p hp
    rw [if_neg (h p hp)]
  · rfl
theorem addB_add (l : List (Nat × Nat)) (a n m : Nat) : addB (addB l a n) (a + n) m = addB l a (n + m) := by
  rcases List.eq_nil_or_concat l with rfl | ⟨r, p, rfl⟩
  · rw [addB_new (l := []) (by simp), addB_new (l := []) (by simp), addB_join rfl]
  · obtain ⟨b, k⟩ := p
    rw [List.concat_eq_append]
    by_cases h : b + k = a
    · rw [addB_join h, addB_join h, addB_join (by omega)]
      rw [Nat.add_assoc]
    · have h2 : ∀ p, (r ++ [(b, k)]).getLast? = some p → p.1 + p.2 ≠ a := by
        intro p hp
        rw [List.getLast?_concat] at hp
        injection hp with hp
        subst hp
        exact h
      rw [addB_new h2, addB_new h2, addB_join rfl]
def sweep1 (ws : List Int) (l : List (Nat × Nat)) (p : Nat × Nat) : List (Nat × Nat) := if hMark (ws.getD p.1 0) = true then l else addB l p.1 (1 + p.2)
def sweepL (ws : List Int) (pre : List (Nat × Nat)) : List (Nat × Nat) := pre.foldl (sweep1 ws) []
end Go.Proofs.Ytpbafmdebflbpaa

namespace Go.Proofs.Ytpbafmdebflbpaa
open Go.RowKit

theorem own_addrB {w : World} {b e size n c : Nat} {A : Option Addr} {xs : List Value} (h : w.ownsRow b e size (.slice A n c) n xs) (hn : 0 < n) : ∃ g, A = some ⟨g, 0, none⟩ := by
  rcases h.2 with ⟨hv, _⟩ | ⟨g, cap, cur, hv, _⟩
  · injection hv with _ h1 _; omega
  · injection hv with h1 _ _; exact ⟨g, h1⟩
abbrev Blks := List (Nat × Nat)
def blks (l : Blks) : List Value := l.flatMap fun p => [.int .i64 p.1, .int .i64 p.2]
theorem sBlock : SliceT Try.prog 81 155 2 16 := SliceT.mk_ Try.underlying81 (z := .agg #[.int .i64 0, .int .i64 0]) (by kernel_rfl) rfl (by omega)
theorem blks_length (l : Blks) : (blks l).length = l.length * 2 := by
  unfold blks; induction l with
  | nil => rfl
  | cons a l ih => simp [List.flatMap_cons] at ih ⊢; omega
theorem blks_at (l : Blks) (k : Nat) (h : k < l.length) : (blks l)[k * 2]? = some (.int .i64 l[k].1) ∧ (blks l)[k * 2 + (0 + 1)]? = some (.int .i64 l[k].2) := by
  unfold blks
  induction l generalizing k with
  | nil => simp at h
  | cons a l ih =>
    cases k with
    | zero => exact ⟨rfl, rfl⟩
    | succ k =>
      have h' : k < l.length := by simpa using h
      have := ih k h'
      simp only [List.flatMap_cons]
      rw [show (k + 1) * 2 = k * 2 + 2 from by omega]
      simpa [Nat.add_right_comm _ 2] using this
theorem blks_snoc (l : Blks) (p : Nat × Nat) : blks (l ++ [p]) = blks l ++ [.int .i64 p.1, .int .i64 p.2] := by simp [blks]
theorem blks_last (l : Blks) (a n m : Nat) : (blks (l ++ [(a, n)])).set (l.length * 2 + 1) (.int .i64 m) = blks (l ++ [(a, m)]) := by
  rw [blks_snoc, blks_snoc, List.set_append_right _ _ (by rw [blks_length]; omega), blks_length, show l.length * 2 + 1 - l.length * 2 = 1 from by omega]
  rfl

set_option maxHeartbeats 800000 in
theorem blocks_same (w : World) (D D' : Nat → Prop) (A A' : Option Addr) (n c c' : Nat) (xs : Blks) (hn : n ≤ 9223372036854775807)
    (h : Rd w D 2 A n (blks xs)) (h' : Rd w D' 2 A' n (blks xs)) :
    Calls Try.prog 48 #[.slice A n c, .slice A' n c'] w fun e w' => e = .returned (.bool true) ∧ Below w.heap.size w w' := by
  have HL := hide (show xs.length = n by have := h.1; rw [blks_length] at this; omega)
  go_enter Try.func48, Try.ntmps48
  go_wp2_with fail
  go_loopw [5] (fun i wr => ∃ k : Nat, k ≤ n ∧ i = .int .i64 k ∧ Below w.heap.size w wr) (fun i _ => n - (intOf i).toNat)
  case atStart => exact ⟨0, by omega, rfl, Below.refl _ _⟩
  case round =>
    obtain ⟨k, hk, rfl, hB⟩ := hrel
    by_cases hlt : k < n
    · have hkl : k < xs.length := by rw [HL.out]; exact hlt
      obtain ⟨v1, v2⟩ := blks_at xs k hkl
      obtain ⟨ad, hA, _, had, hc, hd⟩ := (h.below hB).atN hlt
      obtain ⟨ad', hA', _, had', hc', hd'⟩ := (h'.below hB).atN hlt
      have e0 := hc _ v1
      have e1 := hc' _ v1
      have d0 := hd 0 _ v2
      have d1 := hd' 0 _ v2
      obtain ⟨⟨b, x⟩, hx⟩ : ∃ x, xs[k] = x := ⟨_, rfl⟩
      rw [hx] at e0 e1 d0 d1
      subst hA hA'
      clear hc hc' hd hd' hx v1 v2
      go_wp2_with fail
      go_quiet (fail)
      go_wp2_with fail
      go_roundw
      case rel => exact ⟨k + 1, by omega, by go_num, below_drewN hB _⟩
      case measure => simp [intOf]; omega
    · go_wp2_with fail
      go_ret
      exact ⟨rfl, hB⟩

def SwI (bl : Nat) (A : Option Addr) (n c : Nat) (l : Blks) : List Item := [rowI 155 2 A n c (blks l), blkI bl 81 #[.slice A n c]]
def sweepT (l : Blks) (mk : Bool) (a n : Nat) : Blks := if mk = true then l else addB l a n

set_option maxRecDepth 100000 in
set_option maxHeartbeats 8000000 in
theorem sweep1_any (w : World) (bl : Nat) (A : Option Addr) (n c : Nat) (l : Blks) (at_ len : Nat) (mk : Bool) (age : Int) (hs : (allI (SwI bl A n c l)).P w) (hl : n = l.length) (hn : n ≤ 1000) (hat : at_ ≤ 256) (hlen : len ≤ 4) (hb : ∀ p ∈ l, p.1 + p.2 ≤ 1000) :
    Calls Try.prog 90 #[.int .i64 at_, .agg #[.int .i64 len, .bool mk, .int .i64 age], .pointer (some ⟨bl, 0, none⟩)] w fun e w' => ∃ A' n' c', e = .returned (.bool true) ∧ n' = (sweepT l mk at_ (1 + len)).length ∧
      Sep (allI (SwI bl A n c l)).fp w w' [allI (SwI bl A' n' c' (sweepT l mk at_ (1 + len)))] := by
  obtain ⟨F, hF⟩ : ∃ F, (allI (SwI bl A n c l)).fp = F := ⟨_, rfl⟩
  have hS := (Sep.start hs).flat
  rw [hF] at hS ⊢
  obtain ⟨m1, m2, m3, m4⟩ := hS.rules 1 (g := bl) (t := 81) rfl
  have m5 : w.cell? ⟨bl, 0, none⟩ = some (.slice A n c) := by rw [m1]; rfl
  have HS := hide hS
  clear hF hs m1 m4 hS
  cases mk with
  | true =>
    rw [show sweepT l true at_ (1 + len) = l from rfl]
    have HL := hide hl
    clear hl
    go_enter Try.func90, Try.ntmps90
    go_wp2_with fail
    go_ret
    first | exact ⟨A, n, c, rfl, HL.out, (HS.out.alloc _).fold⟩ | exact ⟨rfl, A, n, c, HL.out, (HS.out.alloc _).fold⟩
  | false =>
    rw [show sweepT l false at_ (1 + len) = addB l at_ (1 + len) from rfl]
    have hS0 := HS.out.alloc (.cells #[.int .i64 len, .bool false, .int .i64 age] 23)
    obtain ⟨q, hq⟩ : ∃ q, 1 + len = q := ⟨_, rfl⟩
    have W1 : IntKind.i64.wrap (1 + (len : Int)) = (q : Int) := by simp only [IntKind.wrap_i64]; omega
    rw [hq]
    rcases List.eq_nil_or_concat l with rfl | ⟨r, p, rfl⟩
    · have hn0 : n = 0 := hl
      subst hn0
      have HA := hide (show addB [] at_ q = [(at_, q)] from addB_new (l := []) (by simp))
      have HS0 := hide hS0
      clear hS0 hl hb
      go_enter Try.func90, Try.ntmps90
      go_wp2_with fail
      go_quiet (fail)
      go_wp2_with (first
        | (at_builtin
           refine wpList_app1 (cs := #[.int .i64 at_, .int .i64 q]) rfl (.tmp 9) (.tmp 15) 81 rfl sBlock (HS0.out.drewN _) 0 (n := 0) rfl rfl rfl (by first | (simp; done) | (rw [World.drewN_heap]; simp)) rfl rfl (by omega) ?_
           intro A4 c4 w4 hS4 hC4
           obtain ⟨z1, z2, z3, z4⟩ := hS4.rules 1 (g := bl) (t := 81) rfl
           (have z5 : w4.cell? ⟨bl, 0, none⟩ = some (.slice A 0 c) := by rw [z1]; rfl)
           clear z1))
      have hS5 := (hS4.set_ 1 (g := bl) (t := 81) rfl 0 (.slice A4 (0 + 1) c4)).fold
      go_ret
      rw [HA.out]
      exact ⟨rfl, A4, c4, hS5⟩
    · obtain ⟨a, b⟩ := p
      rw [List.concat_eq_append] at *
      obtain ⟨k, hk⟩ : ∃ k, r.length = k := ⟨_, rfl⟩
      have hn1 : n = k + 1 := by rw [hl, List.length_append, hk]; rfl
      have hab := hb (a, b) (by simp)
      dsimp only at hab
      have W2 : IntKind.i64.wrap ((n : Int) - 1) = (k : Int) := by simp only [IntKind.wrap_i64]; omega
      have W3 : IntKind.i64.wrap ((a : Int) + (b : Int)) = ((a + b : Nat) : Int) := by simp only [IntKind.wrap_i64]; omega
      have W4 : IntKind.i64.wrap ((b : Int) + (q : Int)) = ((b + q : Nat) : Int) := by simp only [IntKind.wrap_i64]; omega
      have K1 : decide ((0 : Int) < (n : Int)) = true := by simp; omega
      have K1b : decide (0 < n) = true := by simp; omega
      have hkn : k < n := by omega
      have hrow : (w.alloc (.cells #[.int .i64 len, .bool false, .int .i64 age] 23)).ownsRow 0 155 2 (.slice A n c) n (blks (r ++ [(a, b)])) := hS0.get 0 rfl
      obtain ⟨g, hA⟩ := own_addrB hrow (by omega)
      subst hA
      obtain ⟨v1, v2⟩ := blks_at (r ++ [(a, b)]) k (by rw [← hl]; omega)
      have v0 : (r ++ [(a, b)])[k]'(by rw [← hl]; omega) = (a, b) := by subst hk; simp
      rw [v0] at v1 v2
      have e0 := (hrow.cellAt (k * 2) (by omega)).trans v1
      have e1 := (hrow.cellAt (k * 2 + (0 + 1)) (by omega)).trans v2
      have f1 := hrow.frozenAt (k * 2 + (0 + 1))
      by_cases hj : a + b = at_
      · have HA := hide (show addB (r ++ [(a, b)]) at_ q = r ++ [(a, b + q)] from addB_join hj)
        have hS5 := (hS0.store 0 (g := g) rfl (k * 2 + 1) (.int .i64 ((b + q : Nat) : Int)))
        have hk2 : (blks (r ++ [(a, b)])).set (k * 2 + 1) (.int .i64 ((b + q : Nat) : Int)) = blks (r ++ [(a, b + q)]) := by rw [← hk]; exact blks_last r a b (b + q)
        rw [hk2] at hS5
        have HS5 := hide hS5
        have K2 : (((a + b : Nat) : Int) == (at_ : Int)) = true := by simp; omega
        have K2b : (a + b == at_) = true := by simp; omega
        have HL := hide hl
        clear hS0 hl hb hrow v1 v2 v0 hS5 hk2 hj hk hn1
        go_enter Try.func90, Try.ntmps90
        go_wp2_with fail
        go_quiet (fail)
        go_wp2_with fail
        go_region_law (fail)
        all_goals
          go_wp2_with fail
          go_ret
          rw [HA.out]
          have e9 : (r ++ [(a, b + q)]).length = n := by rw [HL.out]; simp
          rw [e9]
          first
            | exact ⟨rfl, some ⟨g, 0, none⟩, c, (HS5.out.drewN _).fold⟩
            | exact ⟨rfl, some ⟨g, 0, none⟩, n, c, rfl, (HS5.out.drewN _).fold⟩
            | exact ⟨some ⟨g, 0, none⟩, n, c, rfl, rfl, (HS5.out.drewN _).fold⟩
            | trace_state
      · have HA := hide (show addB (r ++ [(a, b)]) at_ q = (r ++ [(a, b)]) ++ [(at_, q)] from addB_new (fun p hp => by
          rw [List.getLast?_concat] at hp
          injection hp with hp
          subst hp
          exact hj))
        have HS0 := hide hS0
        have HL := hide hl
        have K2 : (((a + b : Nat) : Int) == (at_ : Int)) = false := by rw [beq_eq_false_iff_ne]; omega
        have K2b : (a + b == at_) = false := by rw [beq_eq_false_iff_ne]; omega
        clear hS0 hb hrow v1 v2 v0 hj hk hl hn1
        go_enter Try.func90, Try.ntmps90
        go_wp2_with fail
        go_quiet (fail)
        go_wp2_with (first
          | (at_builtin
             refine wpList_app1 (cs := #[.int .i64 at_, .int .i64 q]) rfl (.tmp 9) (.tmp 15) 81 rfl sBlock (HS0.out.drewN _) 0 (n := n) rfl rfl rfl (by first | (simp; done) | (rw [World.drewN_heap]; simp)) rfl rfl (by omega) ?_
             intro A4 c4 w4 hS4 hC4
             obtain ⟨z1, z2, z3, z4⟩ := hS4.rules 1 (g := bl) (t := 81) rfl
             (have z5 : w4.cell? ⟨bl, 0, none⟩ = some (.slice (some ⟨g, 0, none⟩) n c) := by rw [z1]; rfl)
             clear z1))
        have hS5 := (hS4.set_ 1 (g := bl) (t := 81) rfl 0 (.slice A4 (n + 1) c4)).fold
        go_ret
        rw [HA.out, List.length_append, ← HL.out]
        have e9 : blks ((r ++ [(a, b)]) ++ [(at_, q)]) = blks (r ++ [(a, b)]) ++ [.int .i64 (at_ : Int), .int .i64 (q : Int)] := blks_snoc _ _
        first
          | exact ⟨rfl, A4, c4, by unfold SwI; rw [e9]; exact hS5⟩
          | exact ⟨A4, n + 1, c4, rfl, rfl, by unfold SwI; rw [e9]; exact hS5⟩
          | exact ⟨rfl, A4, n + 1, c4, rfl, by unfold SwI; rw [e9]; exact hS5⟩
end Go.Proofs.Ytpbafmdebflbpaa
