/- arena: the reference's Read. -/
import Derived.Test.YtpbafmdebflbpaaArnM
namespace Go.Proofs.Ytpbafmdebflbpaa
open Go.RowKit

set_option maxRecDepth 100000 in
set_option maxHeartbeats 16000000 in
theorem refRead_any (w : World) (AW AR : Option Addr) (nW cW nR cR : Nat) (ws rs : List Int) (hW : WsIn w AW nW cW ws) (hR : WsIn w AR nR cR rs) (hz : acheck nW nR ws rs = 0) :
    Calls Try.prog 42 #[.agg #[.slice AW nW cW, .slice AR nR cR]] w fun e w' => ∃ v, e = .returned v ∧ Below w.heap.size w w' ∧
      GraphRd w' (fun g => w.heap.size ≤ g) v (graphOf ws (parse nW ws 0).1) (rs.map (turnW (ixOf (parse nW ws 0).1))) := by
  obtain ⟨h1, h2, h3, h4⟩ := acheck_zero hz
  have hwl := hW.len
  have hrl := hR.len
  have HPM := hide (fun p hp => parse_mem nW ws 0 p (fun x hx => (hW.wf x hx).1) hp)
  have HG := hide (good_of_check h4)
  have HRISE := hide (places_rise nW ws)
  have hS0 := ((Sep.nil No w).blkAt 55 #[.slice AW nW cW, .slice AR nR cR] rfl).blkAt 52 #[.slice none 0 0, .slice none 0 0] (g := w.heap.size + 1) (by simp)
  obtain ⟨a1, a2, a3, a4⟩ := hS0.rules 0 (g := w.heap.size) (t := 55) rfl
  have HS0 := hide hS0
  have C1 := hide (refStarts_any _ AW nW cW ws (hW.below hS0.below_) h1)
  rw [show startsOf nW ws = placesOf (parse nW ws 0).1 from if_pos h3] at C1
  rw [h3] at C1
  obtain ⟨pre, hpre⟩ : ∃ pre, (parse nW ws 0).1 = pre := ⟨_, rfl⟩
  rw [hpre] at HPM HG HRISE C1 ⊢
  have HWL := hide hwl
  have HRL := hide hrl
  clear hS0 h3 h4 hz hpre hwl hrl
  go_enter Try.func42, Try.ntmps42
  go_wp2_with fail
  refine C1.out.mono ?_
  rintro e w1 ⟨As, ns, cs, rfl, hns, hP⟩
  have hpl : pre.length = ns := by have := (hP.rd_ 0 rfl).1; simpa [ints, placesOf] using this
  have hS2 := HS0.out.snocNew hP.below_ _ (hP.get 0 rfl) (fun g hg => (hP.lo 0 rfl g hg).resolve_left (fun h => h))
  have HS2 := hide hS2
  have C3 := hide (unpacked_any _ AR As nR cR ns cs rs (placesOf pre) (ixOf pre) (by omega) (by omega) ((hR.below hS2.below_).rd) hR.wf (fun x hx => HG.out.e x (List.mem_append_left _ hx)) (hS2.rd_ 2 rfl)
    (fun i j a b h1 h2 h3 => HRISE.out i j a b h1 h2 h3) (fun x hx hr => by have := HG.out.ix x (List.mem_append_left _ hx) hr; rw [hpl] at this; exact this))
  have HPL := hide hpl
  clear a1 a2 a3 a4 hP HS0 hpl C1
  obtain ⟨a1, a2, a3, a4⟩ := hS2.rules 0 (g := w.heap.size) (t := 55) rfl
  clear hS2
  go_wp2_with fail
  refine C3.out.mono ?_
  rintro e w3 ⟨Ar, cr, rfl, hP⟩
  have hS5 := ((HS2.out.snocNew hP.below_ _ (hP.get 0 rfl) (fun g hg => (hP.lo 0 rfl g hg).resolve_left (fun h => h))).blkAt 52 #[.slice none 0 0, .slice Ar nR cr] rfl).nilRow0 110 1
  have HS5 := hide hS5
  clear a1 a2 a3 a4 hS5 HS2 hP C3
  go_wp2_with fail
  go_loopw [21] (fun i wr => ∃ (k : Nat) (AO : Option Addr) (cO : Nat) (obs : List Ob), k ≤ ns ∧ i = .int .i64 k ∧ Hid (obs.map Ob.fields = (graphOf ws pre).take k) ∧
    Sep No w wr (rowI 110 1 AO k cO (obs.map Ob.val) :: blkI w.heap.size 55 #[.slice AW nW cW, .slice AR nR cR] :: blkI (w.heap.size + 1) 52 #[.slice none 0 0, .slice none 0 0] :: rowI 3 1 As ns cs (ints (placesOf pre)) :: rowI 32 2 Ar nR cr (vals (rs.map (turnW (ixOf pre)))) :: blkI w3.heap.size 52 #[.slice AO k cO, .slice Ar nR cr] :: obs.map obI)) (fun i _ => ns - (intOf i).toNat)
  case atStart => exact ⟨0, none, 0, [], by omega, rfl, by simp [Hid], HS5.out⟩
  case round =>
    clear HS5
    obtain ⟨k, AO, cO, obs, hk, rfl, HO, hS⟩ := hrel
    by_cases hlt : k < ns
    · have hkl : k < pre.length := by rw [HPL.out]; exact hlt
      obtain ⟨ad, hA, _, had, hc⟩ := (hS.rd_ 3 rfl).at_ hlt
      have e0 := hc (.int .i64 pre[k].1) (by simp [ints, placesOf, List.getElem?_eq_getElem hkl])
      have hpm := HPM.out _ (List.getElem_mem hkl)
      have HT := hide (graphOf_take ws pre k hkl)
      have hgood := HG.out.sub (ys := fieldsAt ws pre[k]) (fun x hx => List.mem_append_right _ (List.mem_flatMap.2 ⟨_, List.getElem_mem hkl, hx⟩))
      obtain ⟨⟨at_, len⟩, hp⟩ : ∃ p, pre[k] = p := ⟨_, rfl⟩
      rw [hp] at e0 hpm HT hgood
      obtain ⟨q1, q2, q3, q4⟩ := hpm
      rw [HWL.out] at q4
      have hl4 : len ≤ 4 := by have := q2.1; omega
      have hsub : ∀ x ∈ fieldsAt ws (at_, len), x ∈ ws := fun x hx => List.mem_of_mem_drop (List.mem_of_mem_take hx)
      have F1 := hide (fun w' (hb : Below w.heap.size w w') => refFields_any w' AW nW cW at_ len ws (hW.below hb) h1 q2 q3 q4)
      have F2 := hide (fun w' A c (hb : Rd w' (fun _ => True) 1 A len (u64s (fieldsAt ws (at_, len)))) (hs : Rd w' (fun _ => True) 1 As ns (ints (placesOf pre))) => unpacked_any w' A As len c ns cs (fieldsAt ws (at_, len)) (placesOf pre) (ixOf pre) (by omega) (by omega) hb (fun x hx => hW.wf x (hsub x hx)) hgood.e hs (fun i j a b h1 h2 h3 => HRISE.out i j a b h1 h2 h3) (fun x hx hr => by have := hgood.ix x hx hr; rw [HPL.out] at this; exact this))
      obtain ⟨i1, i2, i3, i4⟩ := hS.rules 1 (g := w.heap.size) (t := 55) rfl
      obtain ⟨j1, j2, j3, j4⟩ := hS.rules 5 (g := w3.heap.size) (t := 52) rfl
      have i5 : wr.cell? ⟨w.heap.size, 0, none⟩ = some (.slice AW nW cW) := by rw [i1]; rfl
      have j5 : wr.cell? ⟨w3.heap.size, 0, none⟩ = some (.slice AO k cO) := by rw [j1]; rfl
      subst hA
      dsimp only at e0
      clear hc hp q1 q2 q3 q4 hsub hgood i1 j1 i4 j4
      go_wp2_with fail
      have HS := hide hS
      clear hS had e0 hkl h1 h2
      go_region_law (first
        | (refine step_app1 (cs := #[.slice A5 len c5]) rfl (.tmp 26) (.tmp 34) 49 rfl (F := No) (W := w) sObj (items := _ :: _ :: _ :: _ :: _ :: _ :: _) hS5 0 (n := k) rfl rfl rfl (by simp) rfl rfl (by omega) ?_
           intro A7 c7 w7 hS7 hC7
           obtain ⟨z1, z2, z3, z4⟩ := hS7.rules 5 (g := w3.heap.size) (t := 52) rfl
           (have z5 : w7.cell? ⟨w3.heap.size, 0, none⟩ = some (.slice AO k cO) := by rw [z1]; rfl)
           clear z1 z4 hC7)
        | (try go_simp
           go_at_call 66
           refine (F1.out wr.drew HS.out.drew.below_).mono ?_
           rintro e w4 ⟨A4, c4, rfl, hP4⟩
           have hS4 := HS.out.drew.below hP4.below_
           obtain ⟨y1, y2, y3, y4⟩ := hS4.rules 5 (g := w3.heap.size) (t := 52) rfl
           (have y5 : w4.cell? ⟨w3.heap.size, 0, none⟩ = some (.slice AO k cO) := by rw [y1]; rfl)
           clear y1 y4)
        | (try go_simp
           go_at_call 81
           refine (F2.out w4 A4 c4 (hP4.rd_ 0 rfl) (hS4.rd_ 3 rfl)).mono ?_
           rintro e w5 ⟨A5, c5, rfl, hP5⟩
           have hS5 := hS4.snocNew hP5.below_ _ (hP5.get 0 rfl) (fun g hg => (hP5.lo 0 rfl g hg).resolve_left (fun h => h))
           obtain ⟨x1, x2, x3, x4⟩ := hS5.rules 5 (g := w3.heap.size) (t := 52) rfl
           (have x5 : w5.cell? ⟨w3.heap.size, 0, none⟩ = some (.slice AO k cO) := by rw [x1]; rfl)
           clear x1 x4))
      all_goals
        go_wp2_with fail
        go_roundw
        case rel =>
          refine ⟨k + 1, A7, c7, obs ++ [⟨A5, len, c5, (fieldsAt ws (at_, len)).map (turnW (ixOf pre))⟩], by omega, by go_num, ?_, ?_⟩
          · show _ = _
            rw [HT.out, ← HO.out]
            simp
          · rw [obs_snoc, List.map_append]
            exact hS7.set_ 5 (g := w3.heap.size) (t := 52) rfl 0 (.slice A7 (k + 1) c7)
        case measure => simp [intOf]; omega
    · obtain rfl : k = ns := by omega
      have hO2 : obs.map Ob.fields = graphOf ws pre := by
        rw [HO.out]; exact List.take_of_length_le (by unfold graphOf; rw [List.length_map, HPL.out]; omega)
      have HO2 := hide hO2
      obtain ⟨j1, j2, j3, j4⟩ := hS.rules 5 (g := w3.heap.size) (t := 52) rfl
      obtain ⟨y1, y2, y3, y4⟩ := hS.rules 2 (g := w.heap.size + 1) (t := 52) rfl
      have HS := hide hS
      clear hO2 hS HO
      go_wp2_with fail
      have hF := (HS.out.set_ 2 (g := w.heap.size + 1) (t := 52) rfl 0 (.slice AO k cO)).set_ 2 (g := w.heap.size + 1) (t := 52) rfl 1 (.slice Ar nR cr)
      refine bodyPost_ret (v := .agg #[.slice AO k cO, .slice Ar nR cr]) (by simp [results, Try.results42, go_sem, y1]) rfl ⟨_, rfl, hF.below_, ?_⟩
      refine ⟨_, _, _, _, _, _, obs, rfl, obs_read hF (fun o ho => ?_) 0 rfl, HO2.out, hF.rd 4 rfl⟩
      simp only [List.set_cons_succ, List.set_cons_zero, List.mem_cons, List.mem_map]
      exact .inr (.inr (.inr (.inr (.inr (.inr ⟨o, ho, rfl⟩)))))
end Go.Proofs.Ytpbafmdebflbpaa
