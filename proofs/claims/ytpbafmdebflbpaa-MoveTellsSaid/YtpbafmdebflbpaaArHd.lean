/- arena: the reference's Heads and headsOf. -/
import Derived.Test.YtpbafmdebflbpaaArH
import Derived.Test.YtpbafmdebflbpaaArnN
import Derived.Test.YtpbafmdebflbpaaOrdN
namespace Go.Proofs.Ytpbafmdebflbpaa
open Go.RowKit

def headOf (x : Int) : Hd := (hLen x, hMark x, hAge x)
def headsL (ws : List Int) (pre : List (Nat × Nat)) : List Hd := pre.map fun p => headOf (ws.getD p.1 0)
def older (o : Int) (h : Hd) : Hd := (h.1, false, if 7 < h.2.2 + o then 7 else h.2.2 + o)
def headsAt (hs : List Hd) (l : List Int) (o : Int) : List Hd := l.map fun i => older o (hs.getD i.toNat (0, false, 0))
theorem headOk_of {x : Int} (_h0 : 0 ≤ x) (h : unheadOK x) : HdOk (headOf x) := by
  refine ⟨?_, h.1, ?_, ?_⟩
  · show 0 ≤ hLen x; unfold hLen; omega
  · show 0 ≤ hAge x; unfold hAge; omega
  · show hAge x ≤ 7; unfold hAge; omega
theorem headsL_ok {nW : Nat} {ws : List Int} (hw : ∀ x ∈ ws, 0 ≤ x) : ∀ h ∈ headsL ws (parse nW ws 0).1, HdOk h := by
  intro h hh
  obtain ⟨p, hp, rfl⟩ := List.mem_map.1 hh
  obtain ⟨h1, h2, h3, h4⟩ := parse_mem nW ws 0 p hw hp
  exact headOk_of (by rw [List.getD_eq_getElem?_getD, List.getElem?_eq_getElem h1]; exact hw _ (List.getElem_mem h1)) h2
theorem older_ok {h : Hd} {o : Int} (ho : 0 ≤ o) (h1 : HdOk h) : HdOk (older o h) := by
  obtain ⟨a, b, c, d⟩ := h1
  refine ⟨a, b, ?_, ?_⟩ <;> (unfold older; dsimp only; split <;> omega)

set_option maxRecDepth 100000 in
set_option maxHeartbeats 4000000 in
theorem heads_any (w : World) (AW AR : Option Addr) (nW cW nR cR : Nat) (ws : List Int) (hW : WsIn w AW nW cW ws) (hn : nW ≤ 256) (hok : (parse nW ws 0).2 = true) :
    Calls Try.prog 53 #[.agg #[.slice AW nW cW, .slice AR nR cR]] w fun e w' => ∃ A n c, e = .returned (.slice A n c) ∧ n ≤ 256 ∧ Sep No w w' [rowI 23 3 A n c (hcells (headsL ws (parse nW ws 0).1))] := by
  have hS0 := (Sep.nil No w).blkAt 55 #[.slice AW nW cW, .slice AR nR cR] rfl
  obtain ⟨a1, a2, a3, a4⟩ := hS0.rules 0 (g := w.heap.size) (t := 55) rfl
  have HS0 := hide hS0
  have C1 := hide (refStarts_any _ AW nW cW ws (hW.below hS0.below_) hn)
  rw [show startsOf nW ws = placesOf (parse nW ws 0).1 from if_pos hok, hok] at C1
  have HPM := hide (fun p hp => parse_mem nW ws 0 p (fun x hx => (hW.wf x hx).1) hp)
  have HWL := hide hW.len
  obtain ⟨pre, hpre⟩ : ∃ pre, (parse nW ws 0).1 = pre := ⟨_, rfl⟩
  rw [hpre] at HPM C1 ⊢
  clear hS0 hok hpre
  go_enter Try.func53, Try.ntmps53
  go_wp2_with fail
  refine C1.out.mono ?_
  rintro e w1 ⟨As, ns, cs, rfl, hns, hP⟩
  have hpl : pre.length = ns := by have := (hP.rd_ 0 rfl).1; simpa [ints, placesOf] using this
  have hS2 := (HS0.out.snocNew hP.below_ _ (hP.get 0 rfl) (fun g hg => (hP.lo 0 rfl g hg).resolve_left (fun h => h))).nilRow0 23 3
  have HS2 := hide hS2
  have HPL := hide hpl
  clear a1 a2 a3 a4 hS2 HS0 hP C1 hpl
  go_wp2_with fail
  go_loopw [5, 18] (fun s5 i wr => ∃ (k : Nat) (A : Option Addr) (c : Nat), k ≤ ns ∧ i = .int .i64 k ∧ s5 = .slice A k c ∧ Sep No w wr [rowI 23 3 A k c (hcells ((headsL ws pre).take k)), blkI w.heap.size 55 #[.slice AW nW cW, .slice AR nR cR], rowI 3 1 As ns cs (ints (placesOf pre))]) (fun _ i _ => ns - (intOf i).toNat)
  case atStart => exact ⟨0, none, 0, by omega, rfl, rfl, HS2.out⟩
  case round =>
    clear HS2
    obtain ⟨k, A, c, hk, rfl, rfl, hS⟩ := hrel
    by_cases hlt : k < ns
    · have hkl : k < pre.length := by rw [HPL.out]; exact hlt
      have hkh : k < (headsL ws pre).length := by unfold headsL; rw [List.length_map]; exact hkl
      obtain ⟨ad, hA, _, had, hc⟩ := (hS.rd_ 2 rfl).at_ hlt
      have e0 := hc (.int .i64 pre[k].1) (by simp [ints, placesOf, List.getElem?_eq_getElem hkl])
      obtain ⟨q1, q2, q3, q4⟩ := HPM.out _ (List.getElem_mem hkl)
      have HT := hide (List.take_succ_eq_append_getElem hkh)
      have hX : (headsL ws pre)[k] = headOf (ws.getD pre[k].1 0) := by simp [headsL]
      rw [hX] at HT
      obtain ⟨⟨at_, len⟩, hp⟩ : ∃ p, pre[k] = p := ⟨_, rfl⟩
      rw [hp] at e0 q1 q2 q3 q4 HT
      dsimp only at e0 q1 q2 q3 q4 HT
      have hlt2 : at_ < nW := by rw [← HWL.out]; exact q1
      obtain ⟨ad2, hA2, _, had2, hc2⟩ := (hW.below hS.below_).rd.at_ hlt2
      have e1 := hc2 (.int .u64 ws[at_]) (by simp [u64s, List.getElem?_eq_getElem q1])
      have hb := hW.wf _ (List.getElem_mem q1)
      have hgd : ws.getD at_ 0 = ws[at_] := by rw [List.getD_eq_getElem?_getD, List.getElem?_eq_getElem q1]; rfl
      obtain ⟨x, hx⟩ : ∃ x, ws[at_] = x := ⟨_, rfl⟩
      rw [hgd, hx] at HT q2 q3
      rw [hx] at e1 hb
      have C := hide (fun w' => unheadR_ok w' x hb.1 hb.2 q2)
      obtain ⟨g1, g2, g3, g4⟩ := hS.rules 1 (g := w.heap.size) (t := 55) rfl
      have HS := hide hS
      rw [hA]
      have HA := hide hA
      subst hA2
      clear hc hc2 q1 q2 q3 q4 hb hgd hx hp hX hS hA had2
      go_wp2_with fail
      refine (C.out _).mono ?_
      rintro e w3 ⟨rfl, hb3⟩
      have hS3 := (HS.out.below hb3).alloc (.cells #[.int .i64 (hLen x), .bool (hMark x), .int .i64 (hAge x)] 23)
      clear g1 g2 g3 g4 e0 e1 had C hb3
      go_wp2_with (first
        | (at_builtin
           refine wpList_app1 (cs := #[.int .i64 (hLen x), .bool (hMark x), .int .i64 (hAge x)]) rfl (.tmp 31) (.tmp 33) 61 rfl sHead hS3 0 (n := k) rfl rfl rfl (by simp) rfl rfl (by omega) ?_
           intro A4 c4 w4 hS4 hC4))
      go_roundw
      case rel => exact ⟨k + 1, A4, c4, by omega, by go_num, rfl, by rw [HT.out, hcells_snoc, ← HA.out]; exact hS4⟩
      case measure => simp [intOf]; omega
    · obtain rfl : k = ns := by omega
      rw [show (headsL ws pre).take k = headsL ws pre from List.take_of_length_le (by unfold headsL; rw [List.length_map, HPL.out]; omega)] at hS
      go_wp2_with fail
      go_ret
      exact ⟨A, k, c, rfl, by omega, hS.sub (by simp)⟩

set_option maxRecDepth 100000 in
set_option maxHeartbeats 4000000 in
theorem headsOf_any (w : World) (AW AR Al : Option Addr) (nW cW nR cR nl cl : Nat) (o : Int) (ws l : List Int) (hW : WsIn w AW nW cW ws) (hn : nW ≤ 256) (hok : (parse nW ws 0).2 = true) (hl : Rd w (fun _ => True) 1 Al nl (ints l)) (hnl : nl ≤ 1000) (ho : 0 ≤ o ∧ o ≤ 7) (hlr : ∀ x ∈ l, 0 ≤ x ∧ x < ((parse nW ws 0).1.length : Int)) :
    Calls Try.prog 69 #[.agg #[.slice AW nW cW, .slice AR nR cR], .slice Al nl cl, .int .i64 o] w fun e w' => ∃ A c, e = .returned (.slice A nl c) ∧ Sep No w w' [rowI 23 3 A nl c (hcells (headsAt (headsL ws (parse nW ws 0).1) l o))] := by
  have hS0 := (Sep.nil No w).blkAt 55 #[.slice AW nW cW, .slice AR nR cR] rfl
  obtain ⟨a1, a2, a3, a4⟩ := hS0.rules 0 (g := w.heap.size) (t := 55) rfl
  have HS0 := hide hS0
  have C1 := hide (heads_any _ AW AR nW cW nR cR ws (hW.below hS0.below_) hn hok)
  have HLR := hide hlr
  have HLL := hide (show l.length = nl by have := hl.1; simpa using this)
  have HOK := hide (headsL_ok (nW := nW) (ws := ws) (fun x hx => (hW.wf x hx).1))
  have HHL := hide (show (headsL ws (parse nW ws 0).1).length = (parse nW ws 0).1.length by unfold headsL; rw [List.length_map])
  obtain ⟨hs, hhs⟩ : ∃ hs, headsL ws (parse nW ws 0).1 = hs := ⟨_, rfl⟩
  rw [hhs] at HHL C1 HOK ⊢
  rw [← HHL.out] at HLR
  obtain ⟨ho1, ho2⟩ := ho
  clear hS0 hok hlr hhs
  go_enter Try.func69, Try.ntmps69
  go_wp2_with fail
  refine C1.out.mono ?_
  rintro e w1 ⟨As, ns, cs, rfl, hns, hP⟩
  have hpl : hs.length = ns := by have := (hP.rd_ 0 rfl).1; rw [hcells_length] at this; omega
  have hS2 := (HS0.out.snocNew hP.below_ _ (hP.get 0 rfl) (fun g hg => (hP.lo 0 rfl g hg).resolve_left (fun h => h))).nilRow0 23 3
  have HS2 := hide hS2
  have HPL := hide hpl
  clear a1 a2 a3 a4 hS2 HS0 hP C1 hpl HHL
  go_wp2_with fail
  go_loopw [8, 16] (fun s5 i wr => ∃ (k : Nat) (A : Option Addr) (c : Nat), k ≤ nl ∧ i = .int .i64 k ∧ s5 = .slice A k c ∧ Sep No w wr [rowI 23 3 A k c (hcells ((headsAt hs l o).take k)), blkI w.heap.size 55 #[.slice AW nW cW, .slice AR nR cR], rowI 23 3 As ns cs (hcells hs)]) (fun _ i _ => nl - (intOf i).toNat)
  case atStart => exact ⟨0, none, 0, by omega, rfl, rfl, HS2.out⟩
  case round =>
    clear HS2
    obtain ⟨k, A, c, hk, rfl, rfl, hS⟩ := hrel
    by_cases hlt : k < nl
    · have hkl : k < l.length := by rw [HLL.out]; exact hlt
      have hkh : k < (headsAt hs l o).length := by unfold headsAt; rw [List.length_map]; exact hkl
      obtain ⟨ad, hA, _, had, hc⟩ := (hl.below hS.below_).at_ hlt
      have e0 := hc (.int .i64 l[k]) (by simp [ints, List.getElem?_eq_getElem hkl])
      obtain ⟨r1, r2⟩ := HLR.out _ (List.getElem_mem hkl)
      have HT := hide (List.take_succ_eq_append_getElem hkh)
      have hX : (headsAt hs l o)[k] = older o (hs.getD l[k].toNat (0, false, 0)) := by simp [headsAt]
      rw [hX] at HT
      obtain ⟨x, hx⟩ := int_nat r1
      rw [hx] at e0 r2 HT
      have hxl : x < hs.length := by omega
      have hxn : x < ns := by rw [← HPL.out]; exact hxl
      have hgd : hs.getD ((x : Int)).toNat (0, false, 0) = hs[x] := by rw [List.getD_eq_getElem?_getD]; simp [List.getElem?_eq_getElem hxl]
      rw [hgd] at HT
      obtain ⟨v0, v1, v2⟩ := hcells_at hs x hxl
      obtain ⟨ad2, hA2, _, had2, hc2, hd2⟩ := (hS.rd_ 2 rfl).atN hxn
      have t0 := hc2 _ v0
      have t1 := hd2 0 _ v1
      have t2 := hd2 1 _ v2
      obtain ⟨q1, q2, q3, q4⟩ := HOK.out _ (List.getElem_mem hxl)
      obtain ⟨⟨len, mk, ag⟩, hh⟩ : ∃ h, hs[x] = h := ⟨_, rfl⟩
      rw [hh] at t0 t1 t2 q1 q2 q3 q4 HT
      dsimp only at t0 t1 t2 q1 q2 q3 q4
      have i0 : (0 : Int) ≤ x := by omega
      rw [hA2]
      have HA2 := hide hA2
      subst hA
      have HS := hide hS
      clear hc hc2 hd2 v0 v1 v2 hh hgd hx hX r1 r2 hS hA2
      by_cases h7 : 7 < ag + o
      · have HX := hide (show older o (len, mk, ag) = (len, false, 7) from by unfold older; rw [if_pos h7])
        have k7 : decide ((7 : Int) < ag + o) = true := by simp [h7]
        have hS3 := HS.out.alloc (.cells #[.int .i64 len, .bool false, .int .i64 7] 23)
        clear h7
        go_wp2_with (first
          | (at_builtin
             refine wpList_app1 (cs := #[.int .i64 len, .bool false, .int .i64 7]) rfl (.tmp 34) (.tmp 36) 61 rfl sHead hS3 0 (n := k) rfl rfl rfl (by simp) rfl rfl (by omega) ?_
             intro A4 c4 w4 hS4 hC4))
        go_roundw
        case rel => exact ⟨k + 1, A4, c4, by omega, by go_num, rfl, by rw [HT.out, HX.out, hcells_snoc, ← HA2.out]; exact hS4⟩
        case measure => simp [intOf]; omega
      · have HX := hide (show older o (len, mk, ag) = (len, false, ag + o) from by unfold older; rw [if_neg h7])
        have k7 : decide ((7 : Int) < ag + o) = false := by simp [h7]
        have hS3 := HS.out.alloc (.cells #[.int .i64 len, .bool false, .int .i64 (ag + o)] 23)
        clear h7
        go_wp2_with (first
          | (at_builtin
             refine wpList_app1 (cs := #[.int .i64 len, .bool false, .int .i64 (ag + o)]) rfl (.tmp 34) (.tmp 36) 61 rfl sHead hS3 0 (n := k) rfl rfl rfl (by simp) rfl rfl (by omega) ?_
             intro A4 c4 w4 hS4 hC4))
        go_roundw
        case rel => exact ⟨k + 1, A4, c4, by omega, by go_num, rfl, by rw [HT.out, HX.out, hcells_snoc, ← HA2.out]; exact hS4⟩
        case measure => simp [intOf]; omega
    · obtain rfl : k = nl := by omega
      rw [show (headsAt hs l o).take k = headsAt hs l o from List.take_of_length_le (by unfold headsAt; rw [List.length_map, HLL.out]; omega)] at hS
      go_wp2_with fail
      go_ret
      exact ⟨A, c, rfl, hS.sub (by simp)⟩
end Go.Proofs.Ytpbafmdebflbpaa
