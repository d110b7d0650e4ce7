/- arena: the reference's Heads and headsOf. Objects that move: where each comes to stand; the plain part. move: arena.Ref, arena.Fields of words in given blocks, mover.move. -/
import Derived.Test.YtpbafmdebflbpaaMg4
import Derived.Test.YtpbafmdebflbpaaMg9
import Derived.Test.YtpbafmdebflbpaaMg10
import Derived.Maps.OwnOps
import Derived.Maps.OwnSet
namespace Go.Proofs.Ytpbafmdebflbpaa
open Go.RowKit

def headOf (x : Int) : Hd := (hLen x, hMark x, hAge x)
def headsL (ws : List Int) (pre : List (Nat × Nat)) : List Hd := pre.map fun p => headOf (ws.getD p.1 0)
def older (o : Int) (h : Hd) : Hd := (h.1, false, if 7 < h.2.2 + o then 7 else h.2.2 + o)
def headsAt (hs : List Hd) (l : List Int) (o : Int) : List Hd := l.map fun i => older o (hs.getD i.toNat (0, false, 0))
theorem headOk_of {x : Int} (_h0 : 0 ≤ x) (h : unheadOK x) : HdOk (headOf x) := by
  refine ⟨?_, h.1, ?_, ?_⟩
  · show 0 ≤ hLen x; unfold hLen; omega
  · show 0 ≤ hAge x; unfold hAge; omega
  · show hAge x ≤ 7; unfold hAge; omega
theorem headsL_ok {nW : Nat} {ws : List Int} (hw : ∀ x ∈ ws, 0 ≤ x) : ∀ h ∈ headsL ws (parse nW ws 0).1, HdOk h := by
  intro h hh
  obtain ⟨p, hp, rfl⟩ := List.mem_map.1 hh
  obtain ⟨h1, h2, h3, h4⟩ := parse_mem nW ws 0 p hw hp
  exact headOk_of (by rw [List.getD_eq_getElem?_getD, List.getElem?_eq_getElem h1]; exact hw _ (List.getElem_mem h1)) h2
theorem older_ok {h : Hd} {o : Int} (ho : 0 ≤ o) (h1 : HdOk h) : HdOk (older o h) := by
  obtain ⟨a, b, c, d⟩ := h1
  refine ⟨a, b, ?_, ?_⟩ <;> (unfold older; dsimp only; split <;> omega)

set_option maxRecDepth 100000 in
set_option maxHeartbeats 4000000 in
theorem heads_any (w : World) (AW AR : Option Addr) (nW cW nR cR : Nat) (ws : List Int) (hW : WsIn w AW nW cW ws) (hn : nW ≤ 256) (hok : (parse nW ws 0).2 = true) :
    Calls Try.prog 53 #[.agg #[.slice AW nW cW, .slice AR nR cR]] w fun e w' => ∃ A n c, e = .returned (.slice A n c) ∧ n ≤ 256 ∧ Sep No w w' [rowI 23 3 A n c (hcells (headsL ws (parse nW ws 0).1))] := by
  have hS0 := (Sep.nil No w).blkAt 55 #[.slice AW nW cW, .slice AR nR cR] rfl
  obtain ⟨a1, a2, a3, a4⟩ := hS0.rules 0 (g := w.heap.size) (t := 55) rfl
  have HS0 := hide hS0
  have C1 := hide (refStarts_any _ AW nW cW ws (hW.below hS0.below_) hn)
  rw [show startsOf nW ws = placesOf (parse nW ws 0).1 from if_pos hok, hok] at C1
  have HPM := hide (fun p hp => parse_mem nW ws 0 p (fun x hx => (hW.wf x hx).1) hp)
  have HWL := hide hW.len
  obtain ⟨pre, hpre⟩ : ∃ pre, (parse nW ws 0).1 = pre := ⟨_, rfl⟩
  rw [hpre] at HPM C1 ⊢
  clear hS0 hok hpre
  go_enter Try.func53, Try.ntmps53
  go_wp2_with fail
  refine C1.out.mono ?_
  rintro e w1 ⟨As, ns, cs, rfl, hns, hP⟩
  have hpl : pre.length = ns := by have := (hP.rd_ 0 rfl).1; simpa [ints, placesOf] using this
  have hS2 := (HS0.out.snocNew hP.below_ _ (hP.get 0 rfl) (fun g hg => (hP.lo 0 rfl g hg).resolve_left (fun h => h))).nilRow0 23 3
  have HS2 := hide hS2
  have HPL := hide hpl
  clear a1 a2 a3 a4 hS2 HS0 hP C1 hpl
  go_wp2_with fail
  go_loopw [5, 18] (fun s5 i wr => ∃ (k : Nat) (A : Option Addr) (c : Nat), k ≤ ns ∧ i = .int .i64 k ∧ s5 = .slice A k c ∧ Sep No w wr [rowI 23 3 A k c (hcells ((headsL ws pre).take k)), blkI w.heap.size 55 #[.slice AW nW cW, .slice AR nR cR], rowI 3 1 As ns cs (ints (placesOf pre))]) (fun _ i _ => ns - (intOf i).toNat)
  case atStart => exact ⟨0, none, 0, by omega, rfl, rfl, HS2.out⟩
  case round =>
    clear HS2
    obtain ⟨k, A, c, hk, rfl, rfl, hS⟩ := hrel
    by_cases hlt : k < ns
    · have hkl : k < pre.length := by rw [HPL.out]; exact hlt
      have hkh : k < (headsL ws pre).length := by unfold headsL; rw [List.length_map]; exact hkl
      obtain ⟨ad, hA, _, had, hc⟩ := (hS.rd_ 2 rfl).at_ hlt
      have e0 := hc (.int .i64 pre[k].1) (by simp [ints, placesOf, List.getElem?_eq_getElem hkl])
      obtain ⟨q1, q2, q3, q4⟩ := HPM.out _ (List.getElem_mem hkl)
      have HT := hide (List.take_succ_eq_append_getElem hkh)
      have hX : (headsL ws pre)[k] = headOf (ws.getD pre[k].1 0) := by simp [headsL]
      rw [hX] at HT
      obtain ⟨⟨at_, len⟩, hp⟩ : ∃ p, pre[k] = p := ⟨_, rfl⟩
      rw [hp] at e0 q1 q2 q3 q4 HT
      dsimp only at e0 q1 q2 q3 q4 HT
      have hlt2 : at_ < nW := by rw [← HWL.out]; exact q1
      obtain ⟨ad2, hA2, _, had2, hc2⟩ := (hW.below hS.below_).rd.at_ hlt2
      have e1 := hc2 (.int .u64 ws[at_]) (by simp [u64s, List.getElem?_eq_getElem q1])
      have hb := hW.wf _ (List.getElem_mem q1)
      have hgd : ws.getD at_ 0 = ws[at_] := by rw [List.getD_eq_getElem?_getD, List.getElem?_eq_getElem q1]; rfl
      obtain ⟨x, hx⟩ : ∃ x, ws[at_] = x := ⟨_, rfl⟩
      rw [hgd, hx] at HT q2 q3
      rw [hx] at e1 hb
      have C := hide (fun w' => unheadR_ok w' x hb.1 hb.2 q2)
      obtain ⟨g1, g2, g3, g4⟩ := hS.rules 1 (g := w.heap.size) (t := 55) rfl
      have HS := hide hS
      rw [hA]
      have HA := hide hA
      subst hA2
      clear hc hc2 q1 q2 q3 q4 hb hgd hx hp hX hS hA had2
      go_wp2_with fail
      refine (C.out _).mono ?_
      rintro e w3 ⟨rfl, hb3⟩
      have hS3 := (HS.out.below hb3).alloc (.cells #[.int .i64 (hLen x), .bool (hMark x), .int .i64 (hAge x)] 23)
      clear g1 g2 g3 g4 e0 e1 had C hb3
      go_wp2_with (first
        | (at_builtin
           refine wpList_app1 (cs := #[.int .i64 (hLen x), .bool (hMark x), .int .i64 (hAge x)]) rfl (.tmp 31) (.tmp 33) 61 rfl sHead hS3 0 (n := k) rfl rfl rfl (by simp) rfl rfl (by omega) ?_
           intro A4 c4 w4 hS4 hC4))
      go_roundw
      case rel => exact ⟨k + 1, A4, c4, by omega, by go_num, rfl, by rw [HT.out, hcells_snoc, ← HA.out]; exact hS4⟩
      case measure => simp [intOf]; omega
    · obtain rfl : k = ns := by omega
      rw [show (headsL ws pre).take k = headsL ws pre from List.take_of_length_le (by unfold headsL; rw [List.length_map, HPL.out]; omega)] at hS
      go_wp2_with fail
      go_ret
      exact ⟨A, k, c, rfl, by omega, hS.sub (by simp)⟩

set_option maxRecDepth 100000 in
set_option maxHeartbeats 4000000 in
theorem headsOf_any (w : World) (AW AR Al : Option Addr) (nW cW nR cR nl cl : Nat) (o : Int) (ws l : List Int) (hW : WsIn w AW nW cW ws) (hn : nW ≤ 256) (hok : (parse nW ws 0).2 = true) (hl : Rd w (fun _ => True) 1 Al nl (ints l)) (hnl : nl ≤ 1000) (ho : 0 ≤ o ∧ o ≤ 7) (hlr : ∀ x ∈ l, 0 ≤ x ∧ x < ((parse nW ws 0).1.length : Int)) :
    Calls Try.prog 69 #[.agg #[.slice AW nW cW, .slice AR nR cR], .slice Al nl cl, .int .i64 o] w fun e w' => ∃ A c, e = .returned (.slice A nl c) ∧ Sep No w w' [rowI 23 3 A nl c (hcells (headsAt (headsL ws (parse nW ws 0).1) l o))] := by
  have hS0 := (Sep.nil No w).blkAt 55 #[.slice AW nW cW, .slice AR nR cR] rfl
  obtain ⟨a1, a2, a3, a4⟩ := hS0.rules 0 (g := w.heap.size) (t := 55) rfl
  have HS0 := hide hS0
  have C1 := hide (heads_any _ AW AR nW cW nR cR ws (hW.below hS0.below_) hn hok)
  have HLR := hide hlr
  have HLL := hide (show l.length = nl by have := hl.1; simpa using this)
  have HOK := hide (headsL_ok (nW := nW) (ws := ws) (fun x hx => (hW.wf x hx).1))
  have HHL := hide (show (headsL ws (parse nW ws 0).1).length = (parse nW ws 0).1.length by unfold headsL; rw [List.length_map])
  obtain ⟨hs, hhs⟩ : ∃ hs, headsL ws (parse nW ws 0).1 = hs := ⟨_, rfl⟩
  rw [hhs] at HHL C1 HOK ⊢
  rw [← HHL.out] at HLR
  obtain ⟨ho1, ho2⟩ := ho
  clear hS0 hok hlr hhs
  go_enter Try.func69, Try.ntmps69
  go_wp2_with fail
  refine C1.out.mono ?_
  rintro e w1 ⟨As, ns, cs, rfl, hns, hP⟩
  have hpl : hs.length = ns := by have := (hP.rd_ 0 rfl).1; rw [hcells_length] at this; omega
  have hS2 := (HS0.out.snocNew hP.below_ _ (hP.get 0 rfl) (fun g hg => (hP.lo 0 rfl g hg).resolve_left (fun h => h))).nilRow0 23 3
  have HS2 := hide hS2
  have HPL := hide hpl
  clear a1 a2 a3 a4 hS2 HS0 hP C1 hpl HHL
  go_wp2_with fail
  go_loopw [8, 16] (fun s5 i wr => ∃ (k : Nat) (A : Option Addr) (c : Nat), k ≤ nl ∧ i = .int .i64 k ∧ s5 = .slice A k c ∧ Sep No w wr [rowI 23 3 A k c (hcells ((headsAt hs l o).take k)), blkI w.heap.size 55 #[.slice AW nW cW, .slice AR nR cR], rowI 23 3 As ns cs (hcells hs)]) (fun _ i _ => nl - (intOf i).toNat)
  case atStart => exact ⟨0, none, 0, by omega, rfl, rfl, HS2.out⟩
  case round =>
    clear HS2
    obtain ⟨k, A, c, hk, rfl, rfl, hS⟩ := hrel
    by_cases hlt : k < nl
    · have hkl : k < l.length := by rw [HLL.out]; exact hlt
      have hkh : k < (headsAt hs l o).length := by unfold headsAt; rw [List.length_map]; exact hkl
      obtain ⟨ad, hA, _, had, hc⟩ := (hl.below hS.below_).at_ hlt
      have e0 := hc (.int .i64 l[k]) (by simp [ints, List.getElem?_eq_getElem hkl])
      obtain ⟨r1, r2⟩ := HLR.out _ (List.getElem_mem hkl)
      have HT := hide (List.take_succ_eq_append_getElem hkh)
      have hX : (headsAt hs l o)[k] = older o (hs.getD l[k].toNat (0, false, 0)) := by simp [headsAt]
      rw [hX] at HT
      obtain ⟨x, hx⟩ := int_nat r1
      rw [hx] at e0 r2 HT
      have hxl : x < hs.length := by omega
      have hxn : x < ns := by rw [← HPL.out]; exact hxl
      have hgd : hs.getD ((x : Int)).toNat (0, false, 0) = hs[x] := by rw [List.getD_eq_getElem?_getD]; simp [List.getElem?_eq_getElem hxl]
      rw [hgd] at HT
      obtain ⟨v0, v1, v2⟩ := hcells_at hs x hxl
      obtain ⟨ad2, hA2, _, had2, hc2, hd2⟩ := (hS.rd_ 2 rfl).atN hxn
      have t0 := hc2 _ v0
      have t1 := hd2 0 _ v1
      have t2 := hd2 1 _ v2
      obtain ⟨q1, q2, q3, q4⟩ := HOK.out _ (List.getElem_mem hxl)
      obtain ⟨⟨len, mk, ag⟩, hh⟩ : ∃ h, hs[x] = h := ⟨_, rfl⟩
      rw [hh] at t0 t1 t2 q1 q2 q3 q4 HT
      dsimp only at t0 t1 t2 q1 q2 q3 q4
      have i0 : (0 : Int) ≤ x := by omega
      rw [hA2]
      have HA2 := hide hA2
      subst hA
      have HS := hide hS
      clear hc hc2 hd2 v0 v1 v2 hh hgd hx hX r1 r2 hS hA2
      by_cases h7 : 7 < ag + o
      · have HX := hide (show older o (len, mk, ag) = (len, false, 7) from by unfold older; rw [if_pos h7])
        have k7 : decide ((7 : Int) < ag + o) = true := by simp [h7]
        have hS3 := HS.out.alloc (.cells #[.int .i64 len, .bool false, .int .i64 7] 23)
        clear h7
        go_wp2_with (first
          | (at_builtin
             refine wpList_app1 (cs := #[.int .i64 len, .bool false, .int .i64 7]) rfl (.tmp 34) (.tmp 36) 61 rfl sHead hS3 0 (n := k) rfl rfl rfl (by simp) rfl rfl (by omega) ?_
             intro A4 c4 w4 hS4 hC4))
        go_roundw
        case rel => exact ⟨k + 1, A4, c4, by omega, by go_num, rfl, by rw [HT.out, HX.out, hcells_snoc, ← HA2.out]; exact hS4⟩
        case measure => simp [intOf]; omega
      · have HX := hide (show older o (len, mk, ag) = (len, false, ag + o) from by unfold older; rw [if_neg h7])
        have k7 : decide ((7 : Int) < ag + o) = false := by simp [h7]
        have hS3 := HS.out.alloc (.cells #[.int .i64 len, .bool false, .int .i64 (ag + o)] 23)
        clear h7
        go_wp2_with (first
          | (at_builtin
             refine wpList_app1 (cs := #[.int .i64 len, .bool false, .int .i64 (ag + o)]) rfl (.tmp 34) (.tmp 36) 61 rfl sHead hS3 0 (n := k) rfl rfl rfl (by simp) rfl rfl (by omega) ?_
             intro A4 c4 w4 hS4 hC4))
        go_roundw
        case rel => exact ⟨k + 1, A4, c4, by omega, by go_num, rfl, by rw [HT.out, HX.out, hcells_snoc, ← HA2.out]; exact hS4⟩
        case measure => simp [intOf]; omega
    · obtain rfl : k = nl := by omega
      rw [show (headsAt hs l o).take k = headsAt hs l o from List.take_of_length_le (by unfold headsAt; rw [List.length_map, HLL.out]; omega)] at hS
      go_wp2_with fail
      go_ret
      exact ⟨A, c, rfl, hS.sub (by simp)⟩
end Go.Proofs.Ytpbafmdebflbpaa

namespace Go.Proofs.Ytpbafmdebflbpaa
open Go.RowKit Go.Maps

def plc (pre : List (Nat × Nat)) (i : Int) : Nat := (pre.getD i.toNat (0, 0)).1
def lenO (pre : List (Nat × Nat)) (i : Int) : Nat := (pre.getD i.toNat (0, 0)).2
def sumO (pre : List (Nat × Nat)) (l : List Int) : Nat := (l.map fun i => 1 + lenO pre i).sum
def newAt (pre : List (Nat × Nat)) (l : List Int) (i : Int) : Nat := sumO pre (l.take (l.idxOf i))
/-- A map says where the objects of a list stand. -/
structure NowOk (pre : List (Nat × Nat)) (l : List Int) (D : DataW Unit) : Prop where
  map : IsMap D
  has : ∀ i : Int, 0 ≤ i → i < pre.length → Maps.has D (.int .i64 (plc pre i)) = decide (i ∈ l)
  at_ : ∀ i : Int, 0 ≤ i → i < pre.length → i ∈ l → ∀ z, D.atKey (.int .i64 (plc pre i)) z = .lit (.int .i64 (newAt pre l i))

theorem sumO_snoc (pre : List (Nat × Nat)) (l : List Int) (i : Int) : sumO pre (l ++ [i]) = sumO pre l + (1 + lenO pre i) := by simp [sumO]
theorem idxOf_append_left {l m : List Int} {i : Int} (h : i ∈ l) : (l ++ m).idxOf i = l.idxOf i := by rw [List.idxOf_append, if_pos h]
theorem newAt_pre {pre : List (Nat × Nat)} {l m : List Int} {i : Int} (hp : l <+: m) (h : i ∈ l) : newAt pre m i = newAt pre l i := by
  obtain ⟨r, rfl⟩ := hp
  unfold newAt
  rw [idxOf_append_left h, List.take_append_of_le_length (by have := List.idxOf_lt_length_of_mem h; omega)]
theorem newAt_last {pre : List (Nat × Nat)} {l : List Int} {i : Int} (h : i ∉ l) : newAt pre (l ++ [i]) i = sumO pre l := by
  unfold newAt
  rw [List.idxOf_append, if_neg h]
  simp
theorem plc_inj {nW : Nat} {ws : List Int} {i j : Int} (hi0 : 0 ≤ i) (hi : i < (parse nW ws 0).1.length) (hj0 : 0 ≤ j) (hj : j < (parse nW ws 0).1.length) (h : plc (parse nW ws 0).1 i = plc (parse nW ws 0).1 j) : i = j := by
  have hp := parse_rise nW ws 0
  generalize (parse nW ws 0).1 = pre at *
  rw [List.pairwise_iff_getElem] at hp
  have e1 : plc pre i = (pre[i.toNat]'(by omega)).1 := by unfold plc; rw [List.getD_eq_getElem?_getD, List.getElem?_eq_getElem (by omega)]; rfl
  have e2 : plc pre j = (pre[j.toNat]'(by omega)).1 := by unfold plc; rw [List.getD_eq_getElem?_getD, List.getElem?_eq_getElem (by omega)]; rfl
  rw [e1, e2] at h
  rcases Nat.lt_trichotomy i.toNat j.toNat with h1 | h1 | h1
  · have := hp _ _ (by omega) (by omega) h1; omega
  · omega
  · have := hp _ _ (by omega) (by omega) h1; omega
theorem nowOk_nil (pre : List (Nat × Nat)) : NowOk pre [] (.map []) := ⟨⟨[], rfl⟩, fun _ _ _ => by simp [Maps.has], fun i _ _ h => by simp at h⟩
theorem NowOk.put {nW : Nat} {ws : List Int} {l : List Int} {D : DataW Unit} {i : Int} (h : NowOk (parse nW ws 0).1 l D) (hi0 : 0 ≤ i) (hi : i < (parse nW ws 0).1.length) (hn : i ∉ l) :
    NowOk (parse nW ws 0).1 (l ++ [i]) (D.put (.int .i64 (plc (parse nW ws 0).1 i)) (.lit (.int .i64 (sumO (parse nW ws 0).1 l)))) := by
  have hinj := fun j hj0 hj => plc_inj (nW := nW) (ws := ws) (i := j) (j := i) hj0 hj hi0 hi
  generalize (parse nW ws 0).1 = pre at *
  refine ⟨?_, fun j hj0 hj => ?_, fun j hj0 hj hm z => ?_⟩
  · obtain ⟨es, rfl⟩ := h.map; exact ⟨_, rfl⟩
  · by_cases e : j = i
    · subst e
      rw [has_put_same (k := Lit.int .i64 (plc pre j : Int)) h.map trivial]
      simp
    · rw [has_put_other (by intro e2; injection e2 with _ e2; exact e (hinj j hj0 hj (by omega))), h.has j hj0 hj]
      simp [e]
  · by_cases e : j = i
    · subst e
      rw [atKey_put_same (k := Lit.int .i64 (plc pre j : Int)) h.map trivial, newAt_last hn]
    · have hm2 : j ∈ l := by simpa [e] using hm
      rw [atKey_put_other (by intro e2; injection e2 with _ e2; exact e (hinj j hj0 hj (by omega))), h.at_ j hj0 hj hm2 z, newAt_pre (List.prefix_append _ _) hm2]

/-! ### How much room objects take. -/
theorem parse_sum (f : Nat) : ∀ (ws : List Int) (a : Nat), a ≤ ws.length → (∀ x ∈ ws, 0 ≤ x) → ((parse f ws a).1.map fun p => 1 + p.2).sum + a ≤ ws.length := by
  induction f with
  | zero => intro ws a h _; simpa [parse] using h
  | succ f ih =>
    intro ws a h hw
    unfold parse
    split
    · rename_i h1
      split
      · rename_i h2
        have h0 : 0 ≤ hLen (ws.getD a 0) := by unfold hLen; omega
        have := ih ws (a + 1 + (hLen (ws.getD a 0)).toNat) (by omega) hw
        simp only [List.map_cons, List.sum_cons]
        omega
      · simpa using h
    · simpa using h
theorem sumO_le {nW : Nat} {ws l : List Int} (hw : ∀ x ∈ ws, 0 ≤ x) (h : OrdOk (parse nW ws 0).1.length l) : sumO (parse nW ws 0).1 l ≤ ws.length := by
  have h1 := parse_sum nW ws 0 (Nat.zero_le _) hw
  generalize (parse nW ws 0).1 = pre at *
  have h2 := nodup_sum (fun i => 1 + lenO pre i) l ((List.range pre.length).map Int.ofNat) h.nodup (fun x hx => by
    obtain ⟨a, b⟩ := h.rng x hx
    exact List.mem_map.2 ⟨x.toNat, List.mem_range.2 (by omega), by show ((x.toNat : Nat) : Int) = x; omega⟩)
  have h3 : (((List.range pre.length).map Int.ofNat).map fun i => 1 + lenO pre i) = pre.map fun p => 1 + p.2 := by
    rw [List.map_map]
    refine List.ext_getElem (by simp) fun k hk1 hk2 => ?_
    simp only [List.length_map, List.length_range] at hk1 hk2
    simp [lenO, List.getD_eq_getElem?_getD, List.getElem?_eq_getElem hk1]
  rw [h3] at h2
  unfold sumO
  omega
theorem newAt_lt {nW : Nat} {ws l : List Int} {i : Int} (hw : ∀ x ∈ ws, 0 ≤ x) (h : OrdOk (parse nW ws 0).1.length l) (hi : i ∈ l) : newAt (parse nW ws 0).1 l i + 1 + lenO (parse nW ws 0).1 i ≤ ws.length := by
  have h1 := sumO_le hw h
  generalize (parse nW ws 0).1 = pre at *
  have hk : l.idxOf i < l.length := List.idxOf_lt_length_of_mem hi
  have e : l = l.take (l.idxOf i) ++ i :: l.drop (l.idxOf i + 1) := by
    conv => lhs; rw [← List.take_append_drop (l.idxOf i) l, List.drop_eq_getElem_cons hk, List.getElem_idxOf hk]
  have h2 : sumO pre l = newAt pre l i + (1 + lenO pre i) + sumO pre (l.drop (l.idxOf i + 1)) := by
    unfold newAt
    conv => lhs; rw [e]
    unfold sumO
    simp
    omega
  omega

/-! ### Words as they are when objects have moved. -/
def transW (pre : List (Nat × Nat)) (l : List Int) (x : Int) : Int := if unR x = true then 2 * (newAt pre l (ixOf pre (unA x)) : Int) else x
def rawO (ws : List Int) (pre : List (Nat × Nat)) (o i : Int) : List Int := (headW (older o (headOf (ws.getD (plc pre i) 0))).1 false (older o (headOf (ws.getD (plc pre i) 0))).2.2) :: (ws.drop (plc pre i + 1)).take (lenO pre i)
theorem ix_nn (pre : List (Nat × Nat)) (y : Int) : (0 : Int) ≤ (ixOf pre y : Nat) := by omega
end Go.Proofs.Ytpbafmdebflbpaa

namespace Go.Proofs.Ytpbafmdebflbpaa
open Go.RowKit Go.Maps

/-- A map from places to places, of the call's own. -/
def mapJ (b n : Nat) (D : DataW Unit) : Item where
  fp k := k = b
  P w := w.ownsMap Try.prog 3 (plainElem Try.prog 3) b n D
  dom w h k hk := by subst hk; exact World.ownsMap.lt h
  loc w w' _ hk h := by obtain ⟨es, clock, hb, r⟩ := h; exact ⟨es, clock, (hk b rfl).trans hb, r⟩

set_option maxRecDepth 100000 in
theorem Sep.mapUpd {F : Nat → Prop} {W w : World} {items : List Item} (hS : Sep F W w items) (k : Nat) {b n : Nat} {D : DataW Unit} (hk : items[k]? = some (mapJ b n D)) (hn : n < maxLen) (y z : Int) (hy : (Lit.int .i64 y).wf = true) (hz : (Lit.int .i64 z).wf = true) :
    ∃ w', (Instr.mapUpdate 117 (.map (some b)) (.int .i64 y) (.int .i64 z)).run Try.prog w = .ok () w' ∧ Sep F W w' (items.set k (mapJ b (n + 1) (D.put (.int .i64 y) (.lit (.int .i64 z))))) := by
  have hown : w.ownsMap Try.prog 3 (plainElem Try.prog 3) b n D := hS.get k hk
  obtain ⟨w', hrun, r1, r2⟩ := hown.update (int_keyed Try.underlying3) Try.underlying117 hn (keyOf_int_mk Try.underlying3 hy) (plainElem_int Try.underlying3 hz)
  exact ⟨w', hrun, hS.step k hk ((Chg.of_grown r2).mono (fun g hx => .inl (by injection hx with hx; exact hx.symm))) (mapJ b (n + 1) (D.put (.int .i64 y) (.lit (.int .i64 z)))) r1 (fun g hg => .inl hg)⟩


set_option maxRecDepth 100000 in
theorem step_mapUpd {w : World} {ops : Array Oper} {o : Oper} {a : Act} {K : Act → World → Prop} {Q : Exit → Act → World → Prop} {E : Prop} (hgd : o.guard = none) (m x v : Operand) (hop : o.op = Op.mapUpdate 117 m x v)
    {F : Nat → Prop} {W : World} {items : List Item} (hS : Sep F W w items) (k : Nat) {b n : Nat} {D : DataW Unit} (hk : items[k]? = some (mapJ b n D)) (hn : n < maxLen) (y z : Int) (hm : a.eval m = .map (some b)) (hx : a.eval x = .int .i64 y) (hv : a.eval v = .int .i64 z)
    (hy : (Lit.int .i64 y).wf = true) (hz : (Lit.int .i64 z).wf = true) (h : ∀ w', Sep F W w' (items.set k (mapJ b (n + 1) (D.put (.int .i64 y) (.lit (.int .i64 z))))) → K (a.put o.dst undef) w') :
    if Region.wanted o (yielded ops a.tmps) = true then Oper.wp Try.prog o a w K Q else E := by
  have hw : Region.wanted o (yielded ops a.tmps) = true := by simp [Region.wanted, hgd]
  rw [if_pos hw]
  obtain ⟨w', hrun, hS'⟩ := hS.mapUpd k hk hn y z hy hz
  unfold Oper.wp
  simp [execOp, hop, hm, hx, hv, hrun, Result.andThen]
  exact h w' hS'

set_option maxHeartbeats 400000 in
theorem ref_ref (w : World) (x : Int) (h1 : 0 ≤ x) (h2 : x ≤ 18446744073709551615) (h3 : x % 2 = 0) :
    Calls Try.prog 83 #[.int .u64 x] w fun e w' => e = .returned (.tuple #[.int .i64 (x / 2), .bool true]) ∧ w' = w := by
  have e0 := and1 x h1 h2
  rw [h3] at e0
  clear h3
  go_enter Try.func83, Try.ntmps83
  go_wp2
  go_ret2
  first | exact ⟨rfl, rfl⟩ | exact rfl
set_option maxHeartbeats 400000 in
theorem ref_num (w : World) (x : Int) (h1 : 0 ≤ x) (h2 : x ≤ 18446744073709551615) (h3 : x % 2 = 1) :
    Calls Try.prog 83 #[.int .u64 x] w fun e w' => e = .returned (.tuple #[.int .i64 (x / 2), .bool false]) ∧ w' = w := by
  have e0 := and1 x h1 h2
  rw [h3] at e0
  clear h3
  go_enter Try.func83, Try.ntmps83
  go_wp2
  go_ret2
  first | exact ⟨rfl, rfl⟩ | exact rfl

/-- Words that came in, in given blocks. -/
structure WsD (w : World) (D : Nat → Prop) (A : Option Addr) (n c : Nat) (ws : List Int) : Prop where
  rd : Rd w D 1 A n (u64s ws)
  cap : n ≤ c ∧ c ≤ 9223372036854775807
  nil : A = none → n = 0 ∧ c = 0
  wf : ∀ x ∈ ws, 0 ≤ x ∧ x ≤ 18446744073709551615
theorem WsD.in_ {w : World} {D : Nat → Prop} {A : Option Addr} {n c : Nat} {ws : List Int} (h : WsD w D A n c ws) : WsIn w A n c ws := ⟨h.rd.more (fun _ _ _ => trivial), h.cap, h.nil, h.wf⟩
theorem WsD.below {w w' : World} {D : Nat → Prop} {A : Option Addr} {n c : Nat} {ws : List Int} (h : WsD w D A n c ws) (hb : Below w.heap.size w w') : WsD w' D A n c ws := ⟨h.rd.below hb, h.cap, h.nil, h.wf⟩
theorem WsD.chg {w w' : World} {D S : Nat → Prop} {A : Option Addr} {n c : Nat} {ws : List Int} (h : WsD w D A n c ws) (hc : Chg S w w') (hM : ∀ g, S g → ¬ D g) : WsD w' D A n c ws := ⟨h.rd.chg hc hM, h.cap, h.nil, h.wf⟩
theorem WsIn.d {w : World} {A : Option Addr} {n c : Nat} {ws : List Int} (h : WsIn w A n c ws) : WsD w (fun g => g < w.heap.size) A n c ws := ⟨h.rd.more (fun _ h _ => h), h.cap, h.nil, h.wf⟩

set_option maxRecDepth 100000 in
set_option maxHeartbeats 4000000 in
theorem fieldsD_any (w : World) (Dw : Nat → Prop) (Aw : Option Addr) (nw cw at_ len : Nat) (ws : List Int) (hW : WsD w Dw Aw nw cw ws) (hn : nw ≤ 256) (hok : unheadOK (ws.getD at_ 0)) (hlen : hLen (ws.getD at_ 0) = (len : Int)) (hl : at_ + 1 + len ≤ nw) :
    Calls Try.prog 79 #[.slice Aw nw cw, .int .i64 at_] w fun e w' => ∃ (A : Option Addr) (c : Nat),
      e = .returned (.slice A len c) ∧ Below w.heap.size w w' ∧ Rd w Dw 1 A len (u64s ((ws.drop (at_ + 1)).take len)) := by
  have HWL := hide hW.in_.len
  have hcap := hW.cap
  have hlt : at_ < nw := by omega
  have hkl : at_ < ws.length := by rw [HWL.out]; exact hlt
  obtain ⟨ad, hA, _, had, hc⟩ := hW.rd.at_ hlt
  have e0 := hc (.int .u64 ws[at_]) (by simp [u64s, List.getElem?_eq_getElem hkl])
  have hb := hW.wf _ (List.getElem_mem hkl)
  have hgd : ws.getD at_ 0 = ws[at_] := by rw [List.getD_eq_getElem?_getD, List.getElem?_eq_getElem hkl]; rfl
  obtain ⟨x, hx⟩ : ∃ x, ws[at_] = x := ⟨_, rfl⟩
  rw [hgd, hx] at hok hlen
  rw [hx] at e0 hb
  obtain ⟨b1, b2⟩ := hb
  subst hA
  have C := fun w' => unheadP_ok w' x b1 b2 hok
  rw [hlen] at C
  have C1 := hide C
  have hl4 : len ≤ 4 := by have := hok.1; omega
  have HR : Rd w Dw 1 (if cw = at_ + 1 then some ad else some (ad.add (at_ + 1))) len (u64s ((ws.drop (at_ + 1)).take len)) := by
    have h6 := (hW.rd.cut (k := at_ + 1) (cap := cw) (by omega) hcap.1).take (k := len) (by omega)
    have e6 : ((u64s ws).drop ((at_ + 1) * 1)).take (len * 1) = u64s ((ws.drop (at_ + 1)).take len) := by
      rw [Nat.mul_one, Nat.mul_one]
      unfold u64s; rw [List.map_take, List.map_drop]
    rw [e6, Nat.mul_one] at h6
    exact h6
  have HRH := hide HR
  obtain ⟨hc1, hc2⟩ := hcap
  clear C hlen hok hc hgd hx HR hW
  go_enter Try.func79, Try.ntmps79
  go_wp2_with fail
  refine (C1.out _).mono ?_
  rintro e w1 ⟨rfl, hb1⟩
  have hz := hb1.size
  by_cases hcc : cw = at_ + 1
  · have h7 := HRH.out
    rw [if_pos hcc] at h7
    have H7 := hide h7
    have hl0 : len = 0 := by omega
    subst hl0
    clear h7 HRH
    go_wp2_with fail
    go_ret
    exact ⟨some ad, 0, rfl, hb1.alloc hz _, H7.out⟩
  · have h7 := HRH.out
    rw [if_neg hcc, show ad.add (at_ + 1) = ⟨ad.block, ad.off + (at_ + 1), none⟩ from by simp [Addr.add]] at h7
    have H7 := hide h7
    have H8 := hide (show at_ + 1 + len - (at_ + 1) = len by omega)
    clear h7 HRH
    go_wp2_with fail
    go_ret
    exact ⟨_, cw - (at_ + 1), Eq.trans (b := Ending.returned (.slice (some ⟨ad.block, ad.off + (at_ + 1), none⟩) (at_ + 1 + len - (at_ + 1)) (cw - (at_ + 1)))) rfl (by rw [H8.out]), hb1.alloc hz _, H7.out⟩
end Go.Proofs.Ytpbafmdebflbpaa
