/- arena: the program's Read. arena: the reference's Read. The order in which objects are found: plain. -/
import Derived.Test.YtpbafmdebflbpaaMg8
import Derived.Test.YtpbafmdebflbpaaMg1
namespace Go.Proofs.Ytpbafmdebflbpaa
open Go.RowKit

theorem obs_snoc (l : List Ob) (o : Ob) : (l ++ [o]).map Ob.val = l.map Ob.val ++ [Value.slice o.A o.n o.c] := by simp [Ob.val]
theorem graphOf_take (ws : List Int) (l : List (Nat × Nat)) (k : Nat) (h : k < l.length) : (graphOf ws l).take (k + 1) = (graphOf ws l).take k ++ [(fieldsAt ws l[k]).map (turnW (ixOf l))] := by
  have h2 : k < (graphOf ws l).length := by unfold graphOf; rw [List.length_map]; exact h
  rw [List.take_succ_eq_append_getElem h2]
  simp [graphOf]

set_option maxRecDepth 100000 in
set_option maxHeartbeats 16000000 in
theorem read_ok (w : World) (AW AR : Option Addr) (nW cW nR cR : Nat) (ws rs : List Int) (hW : WsIn w AW nW cW ws) (hR : WsIn w AR nR cR rs) (hz : acheck nW nR ws rs = 0) :
    Calls Try.prog 38 #[.agg #[.slice AW nW cW, .slice AR nR cR]] w fun e w' => ∃ v, e = .returned (.tuple #[v, .int .i64 0]) ∧ Below w.heap.size w w' ∧
      GraphRd w' (fun g => w.heap.size ≤ g) v (graphOf ws (parse nW ws 0).1) (rs.map (turnW (ixOf (parse nW ws 0).1))) := by
  obtain ⟨h1, h2, h3, h4⟩ := acheck_zero hz
  have hwl := hW.len
  have hrl := hR.len
  have HPM := hide (fun p hp => parse_mem nW ws 0 p (fun x hx => (hW.wf x hx).1) hp)
  have HG := hide (good_of_check h4)
  have HRISE := hide (places_rise nW ws)
  have hS0 := ((Sep.nil No w).blkAt 55 #[.slice AW nW cW, .slice AR nR cR] rfl).blkAt 52 #[.slice none 0 0, .slice none 0 0] (g := w.heap.size + 1) (by simp)
  obtain ⟨a1, a2, a3, a4⟩ := hS0.rules 0 (g := w.heap.size) (t := 55) rfl
  have HS0 := hide hS0
  have C1 := hide (arenaCheck_any _ AW AR nW cW nR cR ws rs (hW.below hS0.below_) (hR.below hS0.below_))
  rw [hz] at C1
  have C2 := hide (fun w' (hb : Below w.heap.size w w') => begins_any w' AW AR nW cW nR cR ws (hW.below hb) h1 h3)
  obtain ⟨pre, hpre⟩ : ∃ pre, (parse nW ws 0).1 = pre := ⟨_, rfl⟩
  rw [hpre] at HPM HG HRISE C2 ⊢
  have HWL := hide hwl
  have HRL := hide hrl
  clear hS0 h3 h4 hz hpre hwl hrl
  go_enter Try.func38, Try.ntmps38
  go_wp2_with fail
  refine C1.out.mono ?_
  rintro e w1 ⟨rfl, hb1⟩
  have hS1 := HS0.out.below hb1
  have HS1 := hide hS1
  clear a1 a2 a3 a4
  obtain ⟨a1, a2, a3, a4⟩ := hS1.rules 0 (g := w.heap.size) (t := 55) rfl
  go_wp2_with fail
  refine (C2.out _ hS1.below_).mono ?_
  rintro e w2 ⟨As, ns, cs, rfl, hns, hP⟩
  have hpl : pre.length = ns := by have := (hP.rd_ 0 rfl).1; simpa [ints, placesOf] using this
  have hS2 := HS1.out.snocNew hP.below_ _ (hP.get 0 rfl) (fun g hg => (hP.lo 0 rfl g hg).resolve_left (fun h => h))
  have hS3 := hS2.blkAt 40 #[.slice As ns cs] rfl
  have hS4 : Sep No w _ [blkI w.heap.size 55 #[.slice AW nW cW, .slice AR nR cR], blkI (w.heap.size + 1) 52 #[.slice none 0 0, .slice none 0 0], rowI 3 1 As ns cs (ints (placesOf pre)), blkI w2.heap.size 40 #[.slice As ns cs]] := hS3
  have HS4 := hide hS4
  have C3 := hide (readv_any _ w2.heap.size AR As nR cR ns cs rs (placesOf pre) (ixOf pre) (by omega) (by omega) ((hR.below hS4.below_).rd) hR.wf (fun x hx => HG.out.e x (List.mem_append_left _ hx)) (hS4.rd_ 2 rfl) (hS4.get 3 rfl)
    (fun i j a b h1 h2 h3 => HRISE.out i j a b h1 h2 h3) (fun x hx hr => by have := HG.out.ix x (List.mem_append_left _ hx) hr; rw [hpl] at this; exact this))
  have HPL := hide hpl
  clear a1 a2 a3 a4 hS1 hS2 hS3 hS4 hb1 C1 C2 hP HS0 HS1 hpl
  have hq := HS4.out
  obtain ⟨a1, a2, a3, a4⟩ := hq.rules 0 (g := w.heap.size) (t := 55) rfl
  clear hq
  go_wp2_with fail
  refine C3.out.mono ?_
  rintro e w3 ⟨Ar, cr, rfl, hP⟩
  have hS5 := ((HS4.out.snocNew hP.below_ _ (hP.get 0 rfl) (fun g hg => (hP.lo 0 rfl g hg).resolve_left (fun h => h))).blkAt 52 #[.slice none 0 0, .slice Ar nR cr] rfl).nilRow0 110 1
  have HS5 := hide hS5
  obtain ⟨b1, b2, b3, b4⟩ := hS5.rules 4 (g := w2.heap.size) (t := 40) rfl
  have b5 : (w3.alloc (.cells #[.slice none 0 0, .slice Ar nR cr] 52)).cell? ⟨w2.heap.size, 0, none⟩ = some (.slice As ns cs) := by rw [b1]; rfl
  clear a1 a2 a3 a4 hS5 HS4 hP C3 b1
  go_wp2_with fail
  clear b2 b3 b4 b5
  go_loopw [26] (fun i wr => ∃ (k : Nat) (AO : Option Addr) (cO : Nat) (obs : List Ob), k ≤ ns ∧ i = .int .i64 k ∧ Hid (obs.map Ob.fields = (graphOf ws pre).take k) ∧
    Sep No w wr (rowI 110 1 AO k cO (obs.map Ob.val) :: blkI w.heap.size 55 #[.slice AW nW cW, .slice AR nR cR] :: blkI (w.heap.size + 1) 52 #[.slice none 0 0, .slice none 0 0] :: rowI 3 1 As ns cs (ints (placesOf pre)) :: blkI w2.heap.size 40 #[.slice As ns cs] :: rowI 32 2 Ar nR cr (vals (rs.map (turnW (ixOf pre)))) :: blkI w3.heap.size 52 #[.slice AO k cO, .slice Ar nR cr] :: obs.map obI)) (fun i _ => ns - (intOf i).toNat)
  case atStart => exact ⟨0, none, 0, [], by omega, rfl, by simp [Hid], HS5.out⟩
  case round =>
    clear HS5
    obtain ⟨k, AO, cO, obs, hk, rfl, HO, hS⟩ := hrel
    by_cases hlt : k < ns
    · have hkl : k < pre.length := by rw [HPL.out]; exact hlt
      obtain ⟨ad, hA, _, had, hc⟩ := (hS.rd_ 3 rfl).at_ hlt
      have e0 := hc (.int .i64 pre[k].1) (by simp [ints, placesOf, List.getElem?_eq_getElem hkl])
      have hpm := HPM.out _ (List.getElem_mem hkl)
      have HT := hide (graphOf_take ws pre k hkl)
      have hgood := HG.out.sub (ys := fieldsAt ws pre[k]) (fun x hx => List.mem_append_right _ (List.mem_flatMap.2 ⟨_, List.getElem_mem hkl, hx⟩))
      obtain ⟨⟨at_, len⟩, hp⟩ : ∃ p, pre[k] = p := ⟨_, rfl⟩
      rw [hp] at e0 hpm HT hgood
      obtain ⟨q1, q2, q3, q4⟩ := hpm
      rw [HWL.out] at q4
      have hl4 : len ≤ 4 := by have := q2.1; omega
      have hsub : ∀ x ∈ fieldsAt ws (at_, len), x ∈ ws := fun x hx => List.mem_of_mem_drop (List.mem_of_mem_take hx)
      have F1 := hide (fun w' (hb : Below w.heap.size w w') => fields_any w' AW nW cW at_ len ws (hW.below hb) h1 q2 q3 q4)
      have F2 := hide (fun w' A c (hb : Rd w' (fun _ => True) 1 A len (u64s (fieldsAt ws (at_, len)))) (hs : Rd w' (fun _ => True) 1 As ns (ints (placesOf pre))) (hbl : Blk w' w2.heap.size 40 #[.slice As ns cs]) => readv_any w' w2.heap.size A As len c ns cs (fieldsAt ws (at_, len)) (placesOf pre) (ixOf pre) (by omega) (by omega) hb (fun x hx => hW.wf x (hsub x hx)) hgood.e hs hbl (fun i j a b h1 h2 h3 => HRISE.out i j a b h1 h2 h3) (fun x hx hr => by have := hgood.ix x hx hr; rw [HPL.out] at this; exact this))
      obtain ⟨i1, i2, i3, i4⟩ := hS.rules 1 (g := w.heap.size) (t := 55) rfl
      obtain ⟨j1, j2, j3, j4⟩ := hS.rules 6 (g := w3.heap.size) (t := 52) rfl
      have i5 : wr.cell? ⟨w.heap.size, 0, none⟩ = some (.slice AW nW cW) := by rw [i1]; rfl
      have j5 : wr.cell? ⟨w3.heap.size, 0, none⟩ = some (.slice AO k cO) := by rw [j1]; rfl
      subst hA
      dsimp only at e0
      have HH := hide (show (fieldsAt ws (at_, len)).length = (fieldsAt ws (at_, len)).length from rfl)
      clear hc hp q1 q2 q3 q4 hsub hgood i1 j1 i4 j4 HH
      go_wp2_with fail
      have HS := hide hS
      clear hS had e0 hkl h1 h2
      go_region_law (first
        | (refine step_app1 (cs := #[.slice A5 len c5]) rfl (.tmp 31) (.tmp 39) 49 rfl (F := No) (W := w) sObj (items := _ :: _ :: _ :: _ :: _ :: _ :: _ :: _) hS5 0 (n := k) rfl rfl rfl (by simp) rfl rfl (by omega) ?_
           intro A7 c7 w7 hS7 hC7
           obtain ⟨z1, z2, z3, z4⟩ := hS7.rules 6 (g := w3.heap.size) (t := 52) rfl
           (have z5 : w7.cell? ⟨w3.heap.size, 0, none⟩ = some (.slice AO k cO) := by rw [z1]; rfl)
           clear z1 z4 hC7)
        | (try go_simp
           go_at_call 79
           refine (F1.out wr.drew HS.out.drew.below_).mono ?_
           rintro e w4 ⟨A4, c4, rfl, hb4, hR4⟩
           have hS4 := HS.out.drew.below hb4
           obtain ⟨y1, y2, y3, y4⟩ := hS4.rules 6 (g := w3.heap.size) (t := 52) rfl
           (have y5 : w4.cell? ⟨w3.heap.size, 0, none⟩ = some (.slice AO k cO) := by rw [y1]; rfl)
           clear y1 y4)
        | (try go_simp
           go_at_call 77
           refine (F2.out w4 A4 c4 (hR4.below hb4) (hS4.rd_ 3 rfl) (hS4.get 4 rfl)).mono ?_
           rintro e w5 ⟨A5, c5, rfl, hP5⟩
           have hS5 := hS4.snocNew hP5.below_ _ (hP5.get 0 rfl) (fun g hg => (hP5.lo 0 rfl g hg).resolve_left (fun h => h))
           obtain ⟨x1, x2, x3, x4⟩ := hS5.rules 6 (g := w3.heap.size) (t := 52) rfl
           (have x5 : w5.cell? ⟨w3.heap.size, 0, none⟩ = some (.slice AO k cO) := by rw [x1]; rfl)
           clear x1 x4))
      all_goals
        go_wp2_with fail
        go_roundw
        case rel =>
          refine ⟨k + 1, A7, c7, obs ++ [⟨A5, len, c5, (fieldsAt ws (at_, len)).map (turnW (ixOf pre))⟩], by omega, by go_num, ?_, ?_⟩
          · show _ = _
            rw [HT.out, ← HO.out]
            simp
          · rw [obs_snoc, List.map_append]
            exact hS7.set_ 6 (g := w3.heap.size) (t := 52) rfl 0 (.slice A7 (k + 1) c7)
        case measure => simp [intOf]; omega
    · obtain rfl : k = ns := by omega
      have hO2 : obs.map Ob.fields = graphOf ws pre := by
        rw [HO.out]; exact List.take_of_length_le (by unfold graphOf; rw [List.length_map, HPL.out]; omega)
      have HO2 := hide hO2
      obtain ⟨j1, j2, j3, j4⟩ := hS.rules 6 (g := w3.heap.size) (t := 52) rfl
      obtain ⟨y1, y2, y3, y4⟩ := hS.rules 2 (g := w.heap.size + 1) (t := 52) rfl
      have HS := hide hS
      clear hO2 hS HO
      go_wp2_with fail
      have hF := (HS.out.set_ 2 (g := w.heap.size + 1) (t := 52) rfl 0 (.slice AO k cO)).set_ 2 (g := w.heap.size + 1) (t := 52) rfl 1 (.slice Ar nR cr)
      refine bodyPost_ret (v := .tuple #[.agg #[.slice AO k cO, .slice Ar nR cr], .int .i64 0]) (by simp [results, Try.results38, go_sem, y1]) rfl ⟨_, rfl, hF.below_, ?_⟩
      refine ⟨_, _, _, _, _, _, obs, rfl, obs_read hF (fun o ho => ?_) 0 rfl, HO2.out, hF.rd 5 rfl⟩
      simp only [List.set_cons_succ, List.set_cons_zero, List.mem_cons, List.mem_map]
      exact .inr (.inr (.inr (.inr (.inr (.inr (.inr ⟨o, ho, rfl⟩))))))

set_option maxRecDepth 100000 in
set_option maxHeartbeats 4000000 in
theorem read_any (w : World) (AW AR : Option Addr) (nW cW nR cR : Nat) (ws rs : List Int) (hW : WsIn w AW nW cW ws) (hR : WsIn w AR nR cR rs) :
    Calls Try.prog 38 #[.agg #[.slice AW nW cW, .slice AR nR cR]] w fun e w' => ∃ v, e = .returned (.tuple #[v, .int .i64 (acheck nW nR ws rs)]) ∧ Below w.heap.size w w' ∧
      GraphRd w' (fun g => w.heap.size ≤ g) v (if acheck nW nR ws rs = 0 then graphOf ws (parse nW ws 0).1 else []) (if acheck nW nR ws rs = 0 then rs.map (turnW (ixOf (parse nW ws 0).1)) else []) := by
  by_cases h : acheck nW nR ws rs = 0
  · simp only [h, if_true]
    exact read_ok w AW AR nW cW nR cR ws rs hW hR h
  · simp only [h, if_false]
    obtain ⟨x, hx⟩ : ∃ x, acheck nW nR ws rs = x := ⟨_, rfl⟩
    have hS0 := ((Sep.nil No w).blkAt 55 #[.slice AW nW cW, .slice AR nR cR] rfl).blkAt 52 #[.slice none 0 0, .slice none 0 0] (g := w.heap.size + 1) (by simp)
    obtain ⟨a1, a2, a3, a4⟩ := hS0.rules 0 (g := w.heap.size) (t := 55) rfl
    have HS0 := hide hS0
    have C1 := hide (arenaCheck_any _ AW AR nW cW nR cR ws rs (hW.below hS0.below_) (hR.below hS0.below_))
    rw [hx] at C1 h ⊢
    have y1 : (x != 0) = true := by rw [bne_iff_ne]; exact h
    clear hS0 hx h
    go_enter Try.func38, Try.ntmps38
    go_wp2_with fail
    refine C1.out.mono ?_
    rintro e w1 ⟨rfl, hb1⟩
    have hS1 := HS0.out.below hb1
    have HS1 := hide hS1
    clear a1 a2 a3 a4
    obtain ⟨q1, q2, q3, q4⟩ := hS1.rules 1 (g := w.heap.size + 1) (t := 52) rfl
    clear hS1
    go_wp2_with fail
    have hF := (HS1.out.set_ 1 (g := w.heap.size + 1) (t := 52) rfl 0 (.slice none 0 0)).set_ 1 (g := w.heap.size + 1) (t := 52) rfl 1 (.slice none 0 0)
    refine bodyPost_ret (v := .tuple #[.agg #[.slice none 0 0, .slice none 0 0], .int .i64 x]) (by simp [results, Try.results38, go_sem, q1]) rfl ⟨_, rfl, hF.below_, GraphRd.nil _ _⟩
end Go.Proofs.Ytpbafmdebflbpaa

namespace Go.Proofs.Ytpbafmdebflbpaa
open Go.RowKit

set_option maxRecDepth 100000 in
set_option maxHeartbeats 16000000 in
theorem refRead_any (w : World) (AW AR : Option Addr) (nW cW nR cR : Nat) (ws rs : List Int) (hW : WsIn w AW nW cW ws) (hR : WsIn w AR nR cR rs) (hz : acheck nW nR ws rs = 0) :
    Calls Try.prog 42 #[.agg #[.slice AW nW cW, .slice AR nR cR]] w fun e w' => ∃ v, e = .returned v ∧ Below w.heap.size w w' ∧
      GraphRd w' (fun g => w.heap.size ≤ g) v (graphOf ws (parse nW ws 0).1) (rs.map (turnW (ixOf (parse nW ws 0).1))) := by
  obtain ⟨h1, h2, h3, h4⟩ := acheck_zero hz
  have hwl := hW.len
  have hrl := hR.len
  have HPM := hide (fun p hp => parse_mem nW ws 0 p (fun x hx => (hW.wf x hx).1) hp)
  have HG := hide (good_of_check h4)
  have HRISE := hide (places_rise nW ws)
  have hS0 := ((Sep.nil No w).blkAt 55 #[.slice AW nW cW, .slice AR nR cR] rfl).blkAt 52 #[.slice none 0 0, .slice none 0 0] (g := w.heap.size + 1) (by simp)
  obtain ⟨a1, a2, a3, a4⟩ := hS0.rules 0 (g := w.heap.size) (t := 55) rfl
  have HS0 := hide hS0
  have C1 := hide (refStarts_any _ AW nW cW ws (hW.below hS0.below_) h1)
  rw [show startsOf nW ws = placesOf (parse nW ws 0).1 from if_pos h3] at C1
  rw [h3] at C1
  obtain ⟨pre, hpre⟩ : ∃ pre, (parse nW ws 0).1 = pre := ⟨_, rfl⟩
  rw [hpre] at HPM HG HRISE C1 ⊢
  have HWL := hide hwl
  have HRL := hide hrl
  clear hS0 h3 h4 hz hpre hwl hrl
  go_enter Try.func42, Try.ntmps42
  go_wp2_with fail
  refine C1.out.mono ?_
  rintro e w1 ⟨As, ns, cs, rfl, hns, hP⟩
  have hpl : pre.length = ns := by have := (hP.rd_ 0 rfl).1; simpa [ints, placesOf] using this
  have hS2 := HS0.out.snocNew hP.below_ _ (hP.get 0 rfl) (fun g hg => (hP.lo 0 rfl g hg).resolve_left (fun h => h))
  have HS2 := hide hS2
  have C3 := hide (unpacked_any _ AR As nR cR ns cs rs (placesOf pre) (ixOf pre) (by omega) (by omega) ((hR.below hS2.below_).rd) hR.wf (fun x hx => HG.out.e x (List.mem_append_left _ hx)) (hS2.rd_ 2 rfl)
    (fun i j a b h1 h2 h3 => HRISE.out i j a b h1 h2 h3) (fun x hx hr => by have := HG.out.ix x (List.mem_append_left _ hx) hr; rw [hpl] at this; exact this))
  have HPL := hide hpl
  clear a1 a2 a3 a4 hP HS0 hpl C1
  obtain ⟨a1, a2, a3, a4⟩ := hS2.rules 0 (g := w.heap.size) (t := 55) rfl
  clear hS2
  go_wp2_with fail
  refine C3.out.mono ?_
  rintro e w3 ⟨Ar, cr, rfl, hP⟩
  have hS5 := ((HS2.out.snocNew hP.below_ _ (hP.get 0 rfl) (fun g hg => (hP.lo 0 rfl g hg).resolve_left (fun h => h))).blkAt 52 #[.slice none 0 0, .slice Ar nR cr] rfl).nilRow0 110 1
  have HS5 := hide hS5
  clear a1 a2 a3 a4 hS5 HS2 hP C3
  go_wp2_with fail
  go_loopw [21] (fun i wr => ∃ (k : Nat) (AO : Option Addr) (cO : Nat) (obs : List Ob), k ≤ ns ∧ i = .int .i64 k ∧ Hid (obs.map Ob.fields = (graphOf ws pre).take k) ∧
    Sep No w wr (rowI 110 1 AO k cO (obs.map Ob.val) :: blkI w.heap.size 55 #[.slice AW nW cW, .slice AR nR cR] :: blkI (w.heap.size + 1) 52 #[.slice none 0 0, .slice none 0 0] :: rowI 3 1 As ns cs (ints (placesOf pre)) :: rowI 32 2 Ar nR cr (vals (rs.map (turnW (ixOf pre)))) :: blkI w3.heap.size 52 #[.slice AO k cO, .slice Ar nR cr] :: obs.map obI)) (fun i _ => ns - (intOf i).toNat)
  case atStart => exact ⟨0, none, 0, [], by omega, rfl, by simp [Hid], HS5.out⟩
  case round =>
    clear HS5
    obtain ⟨k, AO, cO, obs, hk, rfl, HO, hS⟩ := hrel
    by_cases hlt : k < ns
    · have hkl : k < pre.length := by rw [HPL.out]; exact hlt
      obtain ⟨ad, hA, _, had, hc⟩ := (hS.rd_ 3 rfl).at_ hlt
      have e0 := hc (.int .i64 pre[k].1) (by simp [ints, placesOf, List.getElem?_eq_getElem hkl])
      have hpm := HPM.out _ (List.getElem_mem hkl)
      have HT := hide (graphOf_take ws pre k hkl)
      have hgood := HG.out.sub (ys := fieldsAt ws pre[k]) (fun x hx => List.mem_append_right _ (List.mem_flatMap.2 ⟨_, List.getElem_mem hkl, hx⟩))
      obtain ⟨⟨at_, len⟩, hp⟩ : ∃ p, pre[k] = p := ⟨_, rfl⟩
      rw [hp] at e0 hpm HT hgood
      obtain ⟨q1, q2, q3, q4⟩ := hpm
      rw [HWL.out] at q4
      have hl4 : len ≤ 4 := by have := q2.1; omega
      have hsub : ∀ x ∈ fieldsAt ws (at_, len), x ∈ ws := fun x hx => List.mem_of_mem_drop (List.mem_of_mem_take hx)
      have F1 := hide (fun w' (hb : Below w.heap.size w w') => refFields_any w' AW nW cW at_ len ws (hW.below hb) h1 q2 q3 q4)
      have F2 := hide (fun w' A c (hb : Rd w' (fun _ => True) 1 A len (u64s (fieldsAt ws (at_, len)))) (hs : Rd w' (fun _ => True) 1 As ns (ints (placesOf pre))) => unpacked_any w' A As len c ns cs (fieldsAt ws (at_, len)) (placesOf pre) (ixOf pre) (by omega) (by omega) hb (fun x hx => hW.wf x (hsub x hx)) hgood.e hs (fun i j a b h1 h2 h3 => HRISE.out i j a b h1 h2 h3) (fun x hx hr => by have := hgood.ix x hx hr; rw [HPL.out] at this; exact this))
      obtain ⟨i1, i2, i3, i4⟩ := hS.rules 1 (g := w.heap.size) (t := 55) rfl
      obtain ⟨j1, j2, j3, j4⟩ := hS.rules 5 (g := w3.heap.size) (t := 52) rfl
      have i5 : wr.cell? ⟨w.heap.size, 0, none⟩ = some (.slice AW nW cW) := by rw [i1]; rfl
      have j5 : wr.cell? ⟨w3.heap.size, 0, none⟩ = some (.slice AO k cO) := by rw [j1]; rfl
      subst hA
      dsimp only at e0
      clear hc hp q1 q2 q3 q4 hsub hgood i1 j1 i4 j4
      go_wp2_with fail
      have HS := hide hS
      clear hS had e0 hkl h1 h2
      go_region_law (first
        | (refine step_app1 (cs := #[.slice A5 len c5]) rfl (.tmp 26) (.tmp 34) 49 rfl (F := No) (W := w) sObj (items := _ :: _ :: _ :: _ :: _ :: _ :: _) hS5 0 (n := k) rfl rfl rfl (by simp) rfl rfl (by omega) ?_
           intro A7 c7 w7 hS7 hC7
           obtain ⟨z1, z2, z3, z4⟩ := hS7.rules 5 (g := w3.heap.size) (t := 52) rfl
           (have z5 : w7.cell? ⟨w3.heap.size, 0, none⟩ = some (.slice AO k cO) := by rw [z1]; rfl)
           clear z1 z4 hC7)
        | (try go_simp
           go_at_call 66
           refine (F1.out wr.drew HS.out.drew.below_).mono ?_
           rintro e w4 ⟨A4, c4, rfl, hP4⟩
           have hS4 := HS.out.drew.below hP4.below_
           obtain ⟨y1, y2, y3, y4⟩ := hS4.rules 5 (g := w3.heap.size) (t := 52) rfl
           (have y5 : w4.cell? ⟨w3.heap.size, 0, none⟩ = some (.slice AO k cO) := by rw [y1]; rfl)
           clear y1 y4)
        | (try go_simp
           go_at_call 81
           refine (F2.out w4 A4 c4 (hP4.rd_ 0 rfl) (hS4.rd_ 3 rfl)).mono ?_
           rintro e w5 ⟨A5, c5, rfl, hP5⟩
           have hS5 := hS4.snocNew hP5.below_ _ (hP5.get 0 rfl) (fun g hg => (hP5.lo 0 rfl g hg).resolve_left (fun h => h))
           obtain ⟨x1, x2, x3, x4⟩ := hS5.rules 5 (g := w3.heap.size) (t := 52) rfl
           (have x5 : w5.cell? ⟨w3.heap.size, 0, none⟩ = some (.slice AO k cO) := by rw [x1]; rfl)
           clear x1 x4))
      all_goals
        go_wp2_with fail
        go_roundw
        case rel =>
          refine ⟨k + 1, A7, c7, obs ++ [⟨A5, len, c5, (fieldsAt ws (at_, len)).map (turnW (ixOf pre))⟩], by omega, by go_num, ?_, ?_⟩
          · show _ = _
            rw [HT.out, ← HO.out]
            simp
          · rw [obs_snoc, List.map_append]
            exact hS7.set_ 5 (g := w3.heap.size) (t := 52) rfl 0 (.slice A7 (k + 1) c7)
        case measure => simp [intOf]; omega
    · obtain rfl : k = ns := by omega
      have hO2 : obs.map Ob.fields = graphOf ws pre := by
        rw [HO.out]; exact List.take_of_length_le (by unfold graphOf; rw [List.length_map, HPL.out]; omega)
      have HO2 := hide hO2
      obtain ⟨j1, j2, j3, j4⟩ := hS.rules 5 (g := w3.heap.size) (t := 52) rfl
      obtain ⟨y1, y2, y3, y4⟩ := hS.rules 2 (g := w.heap.size + 1) (t := 52) rfl
      have HS := hide hS
      clear hO2 hS HO
      go_wp2_with fail
      have hF := (HS.out.set_ 2 (g := w.heap.size + 1) (t := 52) rfl 0 (.slice AO k cO)).set_ 2 (g := w.heap.size + 1) (t := 52) rfl 1 (.slice Ar nR cr)
      refine bodyPost_ret (v := .agg #[.slice AO k cO, .slice Ar nR cr]) (by simp [results, Try.results42, go_sem, y1]) rfl ⟨_, rfl, hF.below_, ?_⟩
      refine ⟨_, _, _, _, _, _, obs, rfl, obs_read hF (fun o ho => ?_) 0 rfl, HO2.out, hF.rd 4 rfl⟩
      simp only [List.set_cons_succ, List.set_cons_zero, List.mem_cons, List.mem_map]
      exact .inr (.inr (.inr (.inr (.inr (.inr ⟨o, ho, rfl⟩)))))
end Go.Proofs.Ytpbafmdebflbpaa

namespace Go.Proofs.Ytpbafmdebflbpaa

theorem nodup_sum {α : Type} [DecidableEq α] (f : α → Nat) (l m : List α) (hn : l.Nodup) (hs : ∀ x ∈ l, x ∈ m) : (l.map f).sum ≤ (m.map f).sum := by
  induction l generalizing m with
  | nil => simp
  | cons a l ih =>
    obtain ⟨h1, h2⟩ := List.nodup_cons.1 hn
    have hp := ((List.perm_cons_erase (hs a (by simp))).map f).sum_nat
    have h3 := ih (m.erase a) h2 (fun x hx => (List.mem_erase_of_ne (by rintro rfl; exact h1 hx)).2 (hs x (by simp [hx])))
    simp only [List.map_cons, List.sum_cons] at hp ⊢
    omega
theorem nodup_len (l : List Int) (n : Nat) (hn : l.Nodup) (hs : ∀ x ∈ l, 0 ≤ x ∧ x < (n : Int)) : l.length ≤ n := by
  have h := nodup_sum (fun _ => 1) l ((List.range n).map Int.ofNat) hn (fun x hx => by
    obtain ⟨a, b⟩ := hs x hx
    exact List.mem_map.2 ⟨x.toNat, List.mem_range.2 (by omega), by show ((x.toNat : Nat) : Int) = x; omega⟩)
  have e : ∀ m : List Int, (m.map (fun _ => 1)).sum = m.length := fun m => by
    induction m with
    | nil => rfl
    | cons a m ih => simp only [List.map_cons, List.sum_cons, List.length_cons, ih]; omega
  rw [e, e] at h
  simpa using h

def seen1 (l : List Int) (v : Val) : List Int := if v.1 = true ∧ v.2 ∉ l then l ++ [v.2] else l
def seenAll (l : List Int) (vs : List Val) : List Int := vs.foldl seen1 l
def fieldsI (gs : List (List Val)) (x : Int) : List Val := gs.getD x.toNat []
def bfs (gs : List (List Val)) : Nat → Nat → List Int → List Int
  | 0, _, l => l
  | f + 1, k, l => if k < l.length then bfs gs f (k + 1) (seenAll l (fieldsI gs (l.getD k 0))) else l
def order (gs : List (List Val)) (vs : List Val) : List Int := bfs gs gs.length 0 (seenAll [] vs)
def ValsOk (n : Nat) (vs : List Val) : Prop := ∀ v ∈ vs, v.1 = true → 0 ≤ v.2 ∧ v.2 < (n : Int)
structure OrdOk (n : Nat) (l : List Int) : Prop where
  nodup : l.Nodup
  rng : ∀ x ∈ l, 0 ≤ x ∧ x < (n : Int)
theorem OrdOk.len {n : Nat} {l : List Int} (h : OrdOk n l) : l.length ≤ n := nodup_len l n h.nodup h.rng
theorem OrdOk.nil (n : Nat) : OrdOk n [] := ⟨List.nodup_nil, by simp⟩
theorem OrdOk.seen1 {n : Nat} {l : List Int} (h : OrdOk n l) {v : Val} (hv : v.1 = true → 0 ≤ v.2 ∧ v.2 < (n : Int)) : OrdOk n (seen1 l v) := by
  unfold Go.Proofs.Ytpbafmdebflbpaa.seen1
  split
  · rename_i hc
    refine ⟨List.nodup_append.2 ⟨h.nodup, by simp, fun a ha b hb => by simp at hb; subst hb; rintro rfl; exact hc.2 ha⟩, fun x hx => ?_⟩
    rcases List.mem_append.1 hx with h1 | h1
    · exact h.rng x h1
    · simp at h1; subst h1; exact hv hc.1
  · exact h
theorem OrdOk.seenAll {n : Nat} {l : List Int} (h : OrdOk n l) {vs : List Val} (hv : ValsOk n vs) : OrdOk n (seenAll l vs) := by
  unfold Go.Proofs.Ytpbafmdebflbpaa.seenAll
  induction vs generalizing l with
  | nil => exact h
  | cons a vs ih => exact ih (h.seen1 (hv a (by simp))) (fun v hv' => hv v (by simp [hv']))
theorem fieldsI_ok {gs : List (List Val)} {n : Nat} (hg : ∀ fs ∈ gs, ValsOk n fs) (x : Int) : ValsOk n (fieldsI gs x) := by
  unfold fieldsI
  rw [List.getD_eq_getElem?_getD]
  cases h : gs[x.toNat]? with
  | none => intro v hv; simp at hv
  | some fs => exact hg fs (List.mem_of_getElem? h)
theorem OrdOk.bfs {gs : List (List Val)} {n : Nat} (hg : ∀ fs ∈ gs, ValsOk n fs) (f : Nat) {k : Nat} {l : List Int} (h : OrdOk n l) : OrdOk n (bfs gs f k l) := by
  induction f generalizing k l with
  | zero => exact h
  | succ f ih =>
    unfold Go.Proofs.Ytpbafmdebflbpaa.bfs
    split
    · exact ih (h.seenAll (fieldsI_ok hg _))
    · exact h
theorem seen1_pre (l : List Int) (v : Val) : l <+: seen1 l v := by
  unfold seen1
  split
  · exact List.prefix_append _ _
  · exact List.prefix_refl _
theorem seenAll_pre (l : List Int) (vs : List Val) : l <+: seenAll l vs := by
  unfold seenAll
  induction vs generalizing l with
  | nil => exact List.prefix_refl _
  | cons a vs ih => exact (seen1_pre l a).trans (ih _)
theorem bfs_pre (gs : List (List Val)) (f k : Nat) (l : List Int) : l <+: bfs gs f k l := by
  induction f generalizing k l with
  | zero => exact List.prefix_refl _
  | succ f ih =>
    unfold bfs
    split
    · exact (seenAll_pre _ _).trans (ih _ _)
    · exact List.prefix_refl _
theorem order_ok {gs : List (List Val)} {vs : List Val} (hg : ∀ fs ∈ gs, ValsOk gs.length fs) (hv : ValsOk gs.length vs) : OrdOk gs.length (order gs vs) := ((OrdOk.nil _).seenAll hv).bfs hg _
theorem bfs_end (gs : List (List Val)) (f k : Nat) (l : List Int) (h : l.length ≤ k) : bfs gs f k l = l := by
  cases f with
  | zero => rfl
  | succ f => unfold bfs; rw [if_neg (by omega)]
theorem bfs_step (gs : List (List Val)) (n k : Nat) (l : List Int) (h : k < l.length) (hn : l.length ≤ n) : bfs gs (n - k) k l = bfs gs (n - (k + 1)) (k + 1) (seenAll l (fieldsI gs (l.getD k 0))) := by
  rw [show n - k = (n - (k + 1)) + 1 from by omega]
  conv => lhs; unfold bfs
  rw [if_pos h]
end Go.Proofs.Ytpbafmdebflbpaa
