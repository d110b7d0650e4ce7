/- The reference's Renumber. arena: the reference's Heads and headsOf. Objects that move: where each comes to stand; the plain part. -/
import Derived.Test.YtpbafmdebflbpaaGMarkTells10
import Derived.Test.YtpbafmdebflbpaaGMarkTells5
import Derived.Test.YtpbafmdebflbpaaGMarkTells9
set_option linter.unusedSimpArgs false
set_option linter.unusedVariables false
namespace Go.Proofs.Ytpbafmdebflbpaa
open Go.RowKit

def renumF (fss : List (List Val)) (l : List Int) : List (List Val) := l.map fun x => (fieldsI fss x).map (turnL l)
theorem renumF_take (fss : List (List Val)) (l : List Int) (k : Nat) (h : k < l.length) : (renumF fss l).take (k + 1) = (renumF fss l).take k ++ [(fieldsI fss l[k]).map (turnL l)] := by
  have h2 : k < (renumF fss l).length := by unfold renumF; rw [List.length_map]; exact h
  rw [List.take_succ_eq_append_getElem h2]
  simp [renumF]
theorem obs_snoc_ (l : List Ob) (o : Ob) : (l ++ [o]).map Ob.val = l.map Ob.val ++ [Value.slice o.A o.n o.c] := by simp [Ob.val]

set_option maxRecDepth 100000 in
set_option maxHeartbeats 16000000 in
theorem renumber_any (w : World) (v : Value) (Al : Option Addr) (nl cl : Nat) (fss : List (List Val)) (roots : List Val) (l : List Int) (h : GraphRd w (fun _ => True) v fss roots) (hl : Rd w (fun _ => True) 1 Al nl (ints l)) (hlr : ∀ x ∈ l, 0 ≤ x ∧ x < (fss.length : Int)) (hn : fss.length ≤ 1000) (hnl : nl ≤ 1000) (hr : roots.length ≤ 1000) (hf : ∀ fs ∈ fss, fs.length ≤ 1000) :
    Calls Try.prog 68 #[v, .slice Al nl cl] w fun e w' => ∃ v', e = .returned v' ∧ Below w.heap.size w w' ∧ GraphRd w' (fun g => w.heap.size ≤ g) v' (renumF fss l) (roots.map (turnL l)) := by
  obtain ⟨AO, nO, cO, AR, nR, cR, obs, rfl, hO, h3, hR⟩ := h.ex
  have HRL := hide (show roots.length = nR by have := hR.1; rw [vals_length] at this; omega)
  have HLL := hide (show l.length = nl by have := hl.1; simpa using this)
  have HOL := hide hO.len
  have hlen : fss.length = nO := by rw [← h3, List.length_map]; exact hO.len
  rw [hlen] at hlr hn
  have HF := hide hf
  have H3 := hide h3
  have HLR := hide hlr
  have hnR : nR ≤ 1000 := by have := HRL.out; omega
  have hS0 := ((Sep.nil No w).blkAt 52 #[.slice AO nO cO, .slice AR nR cR] rfl).blkAt 52 #[.slice none 0 0, .slice none 0 0] (g := w.heap.size + 1) (by simp)
  obtain ⟨a1, a2, a3, a4⟩ := hS0.rules 0 (g := w.heap.size) (t := 52) rfl
  have HS0 := hide hS0
  have C1 := hide (turned_any _ AR Al nR cR nl cl roots l hnR hnl (hR.below hS0.below_) (hl.below hS0.below_))
  clear hlr hf h3 hlen hr h hS0
  go_enter Try.func68, Try.ntmps68
  go_wp2_with fail
  refine C1.out.mono ?_
  rintro e w3 ⟨Ar, cr, rfl, hP⟩
  have hS5 := ((HS0.out.snocNew hP.below_ _ (hP.get 0 rfl) (fun g hg => (hP.lo 0 rfl g hg).resolve_left (fun h => h))).blkAt 52 #[.slice none 0 0, .slice Ar nR cr] rfl).nilRow0 110 1
  have HS5 := hide hS5
  clear a1 a2 a3 a4 hS5 HS0 hP C1
  go_wp2_with fail
  go_loopw [15] (fun i wr => ∃ (k : Nat) (A' : Option Addr) (c' : Nat) (obs' : List Ob), k ≤ nl ∧ i = .int .i64 k ∧ Hid (obs'.map Ob.fields = (renumF fss l).take k) ∧
    Sep No w wr (rowI 110 1 A' k c' (obs'.map Ob.val) :: blkI w.heap.size 52 #[.slice AO nO cO, .slice AR nR cR] :: blkI (w.heap.size + 1) 52 #[.slice none 0 0, .slice none 0 0] :: rowI 32 2 Ar nR cr (vals (roots.map (turnL l))) :: blkI w3.heap.size 52 #[.slice A' k c', .slice Ar nR cr] :: obs'.map obI)) (fun i _ => nl - (intOf i).toNat)
  case atStart => exact ⟨0, none, 0, [], by omega, rfl, by simp [Hid], HS5.out⟩
  case round =>
    clear HS5
    obtain ⟨k, A', c', obs', hk, rfl, HO, hS⟩ := hrel
    by_cases hlt : k < nl
    · have hkl : k < l.length := by rw [HLL.out]; exact hlt
      obtain ⟨ad, hA, _, had, hc⟩ := (hl.below hS.below_).at_ hlt
      have e0 := hc (.int .i64 l[k]) (by simp [ints, List.getElem?_eq_getElem hkl])
      obtain ⟨r1, r2⟩ := HLR.out _ (List.getElem_mem hkl)
      have HT := hide (renumF_take fss l k hkl)
      obtain ⟨x, hx⟩ := int_nat r1
      rw [hx] at e0 r2 HT
      have hxn : x < nO := by omega
      have hxl : x < obs.length := by rw [HOL.out]; exact hxn
      obtain ⟨ad2, hA2, _, had2, hc2⟩ := (hO.below hS.below_).row.at_ hxn
      have e1 := hc2 obs[x].val (by simp [List.getElem?_eq_getElem hxl])
      have hEach := hO.each _ (List.getElem_mem hxl)
      have hFl := hO.flen (List.getElem_mem hxl)
      have hfi : fieldsI fss (x : Int) = obs[x].fields := by
        unfold fieldsI
        rw [← H3.out, List.getD_eq_getElem?_getD]
        simp [List.getElem?_eq_getElem hxl]
      have hfb := HF.out _ (show obs[x].fields ∈ fss by rw [← H3.out]; exact List.mem_map.2 ⟨_, List.getElem_mem hxl, rfl⟩)
      obtain ⟨o, ho⟩ : ∃ o, obs[x] = o := ⟨_, rfl⟩
      rw [hfi] at HT
      rw [ho] at e1 hEach hFl hfb HT
      unfold Ob.val at e1
      rw [hFl] at hfb
      have C := hide (fun w' (hb : Below w.heap.size w w') => turned_any w' o.A Al o.n o.c nl cl o.fields l hfb hnl (hEach.below hb) (hl.below hb))
      obtain ⟨i1, i2, i3, i4⟩ := hS.rules 1 (g := w.heap.size) (t := 52) rfl
      obtain ⟨j1, j2, j3, j4⟩ := hS.rules 4 (g := w3.heap.size) (t := 52) rfl
      have i5 : wr.cell? ⟨w.heap.size, 0, none⟩ = some (.slice AO nO cO) := by rw [i1]; rfl
      have j5 : wr.cell? ⟨w3.heap.size, 0, none⟩ = some (.slice A' k c') := by rw [j1]; rfl
      have i0 : (0 : Int) ≤ x := by omega
      subst hA hA2
      have HS := hide hS
      clear hc hc2 r1 r2 hx hfi hFl hfb hEach ho hS i1 j1 i4 j4 had2
      go_wp2_with fail
      clear e0
      go_region_law (first
        | (refine step_app1 (cs := #[.slice A5 o.n c5]) rfl (.tmp 20) (.tmp 30) 49 rfl (F := No) (W := w) sObj (items := _ :: _ :: _ :: _ :: _ :: _) hS5 0 (n := k) rfl rfl rfl (by simp) rfl rfl (by omega) ?_
           intro A7 c7 w7 hS7 hC7
           obtain ⟨z1, z2, z3, z4⟩ := hS7.rules 4 (g := w3.heap.size) (t := 52) rfl
           (have z5 : w7.cell? ⟨w3.heap.size, 0, none⟩ = some (.slice A' k c') := by rw [z1]; rfl)
           clear z1 z4 hC7)
        | (try go_simp
           go_at_call 102
           refine (C.out wr.drew HS.out.drew.below_).mono ?_
           rintro e w4 ⟨A5, c5, rfl, hP5⟩
           have hS5 := HS.out.drew.snocNew hP5.below_ _ (hP5.get 0 rfl) (fun g hg => (hP5.lo 0 rfl g hg).resolve_left (fun h => h))
           obtain ⟨x1, x2, x3, x4⟩ := hS5.rules 4 (g := w3.heap.size) (t := 52) rfl
           (have x5 : w4.cell? ⟨w3.heap.size, 0, none⟩ = some (.slice A' k c') := by rw [x1]; rfl)
           clear x1 x4))
      all_goals
        go_wp2_with fail
        go_roundw
        case rel =>
          refine ⟨k + 1, A7, c7, obs' ++ [⟨A5, o.n, c5, o.fields.map (turnL l)⟩], by omega, by go_num, ?_, ?_⟩
          · show _ = _
            rw [HT.out, ← HO.out]
            simp
          · rw [obs_snoc_, List.map_append]
            exact hS7.set_ 4 (g := w3.heap.size) (t := 52) rfl 0 (.slice A7 (k + 1) c7)
        case measure => simp [intOf]; omega
    · obtain rfl : k = nl := by omega
      have hO2 : obs'.map Ob.fields = renumF fss l := by
        rw [HO.out]; exact List.take_of_length_le (by unfold renumF; rw [List.length_map, HLL.out]; omega)
      have HO2 := hide hO2
      obtain ⟨j1, j2, j3, j4⟩ := hS.rules 4 (g := w3.heap.size) (t := 52) rfl
      obtain ⟨y1, y2, y3, y4⟩ := hS.rules 2 (g := w.heap.size + 1) (t := 52) rfl
      have HS := hide hS
      clear hO2 hS HO
      go_wp2_with fail
      have hF := (HS.out.set_ 2 (g := w.heap.size + 1) (t := 52) rfl 0 (.slice A' k c')).set_ 2 (g := w.heap.size + 1) (t := 52) rfl 1 (.slice Ar nR cr)
      refine bodyPost_ret (v := .agg #[.slice A' k c', .slice Ar nR cr]) (by simp [results, Try.results68, go_sem, y1]) rfl ⟨_, rfl, hF.below_, ?_⟩
      refine ⟨_, _, _, _, _, _, obs', rfl, obs_read hF (fun o ho => ?_) 0 rfl, HO2.out, hF.rd 3 rfl⟩
      simp only [List.set_cons_succ, List.set_cons_zero, List.mem_cons, List.mem_map]
      exact .inr (.inr (.inr (.inr (.inr ⟨o, ho, rfl⟩))))
end Go.Proofs.Ytpbafmdebflbpaa

namespace Go.Proofs.Ytpbafmdebflbpaa
open Go.RowKit

def headOf (x : Int) : Hd := (hLen x, hMark x, hAge x)
def headsL (ws : List Int) (pre : List (Nat × Nat)) : List Hd := pre.map fun p => headOf (ws.getD p.1 0)
def older (o : Int) (h : Hd) : Hd := (h.1, false, if 7 < h.2.2 + o then 7 else h.2.2 + o)
def headsAt (hs : List Hd) (l : List Int) (o : Int) : List Hd := l.map fun i => older o (hs.getD i.toNat (0, false, 0))
theorem headOk_of {x : Int} (_h0 : 0 ≤ x) (h : unheadOK x) : HdOk (headOf x) := by
  refine ⟨?_, h.1, ?_, ?_⟩
  · show 0 ≤ hLen x; unfold hLen; omega
  · show 0 ≤ hAge x; unfold hAge; omega
  · show hAge x ≤ 7; unfold hAge; omega
theorem headsL_ok {nW : Nat} {ws : List Int} (hw : ∀ x ∈ ws, 0 ≤ x) : ∀ h ∈ headsL ws (parse nW ws 0).1, HdOk h := by
  intro h hh
  obtain ⟨p, hp, rfl⟩ := List.mem_map.1 hh
  obtain ⟨h1, h2, h3, h4⟩ := parse_mem nW ws 0 p hw hp
  exact headOk_of (by rw [List.getD_eq_getElem?_getD, List.getElem?_eq_getElem h1]; exact hw _ (List.getElem_mem h1)) h2
theorem older_ok {h : Hd} {o : Int} (ho : 0 ≤ o) (h1 : HdOk h) : HdOk (older o h) := by
  obtain ⟨a, b, c, d⟩ := h1
  refine ⟨a, b, ?_, ?_⟩ <;> (unfold older; dsimp only; split <;> omega)

set_option maxRecDepth 100000 in
set_option maxHeartbeats 4000000 in
theorem heads_any (w : World) (AW AR : Option Addr) (nW cW nR cR : Nat) (ws : List Int) (hW : WsIn w AW nW cW ws) (hn : nW ≤ 256) (hok : (parse nW ws 0).2 = true) :
    Calls Try.prog 53 #[.agg #[.slice AW nW cW, .slice AR nR cR]] w fun e w' => ∃ A n c, e = .returned (.slice A n c) ∧ n ≤ 256 ∧ Sep No w w' [rowI 23 3 A n c (hcells (headsL ws (parse nW ws 0).1))] := by
  have hS0 := (Sep.nil No w).blkAt 55 #[.slice AW nW cW, .slice AR nR cR] rfl
  obtain ⟨a1, a2, a3, a4⟩ := hS0.rules 0 (g := w.heap.size) (t := 55) rfl
  have HS0 := hide hS0
  have C1 := hide (refStarts_any _ AW nW cW ws (hW.below hS0.below_) hn)
  rw [show startsOf nW ws = placesOf (parse nW ws 0).1 from if_pos hok, hok] at C1
  have HPM := hide (fun p hp => parse_mem nW ws 0 p (fun x hx => (hW.wf x hx).1) hp)
  have HWL := hide hW.len
  obtain ⟨pre, hpre⟩ : ∃ pre, (parse nW ws 0).1 = pre := ⟨_, rfl⟩
  rw [hpre] at HPM C1 ⊢
  clear hS0 hok hpre
  go_enter Try.func53, Try.ntmps53
  go_wp2_with fail
  refine C1.out.mono ?_
  rintro e w1 ⟨As, ns, cs, rfl, hns, hP⟩
  have hpl : pre.length = ns := by have := (hP.rd_ 0 rfl).1; simpa [ints, placesOf] using this
  have hS2 := (HS0.out.snocNew hP.below_ _ (hP.get 0 rfl) (fun g hg => (hP.lo 0 rfl g hg).resolve_left (fun h => h))).nilRow0 23 3
  have HS2 := hide hS2
  have HPL := hide hpl
  clear a1 a2 a3 a4 hS2 HS0 hP C1 hpl
  go_wp2_with fail
  go_loopw [5, 18] (fun s5 i wr => ∃ (k : Nat) (A : Option Addr) (c : Nat), k ≤ ns ∧ i = .int .i64 k ∧ s5 = .slice A k c ∧ Sep No w wr [rowI 23 3 A k c (hcells ((headsL ws pre).take k)), blkI w.heap.size 55 #[.slice AW nW cW, .slice AR nR cR], rowI 3 1 As ns cs (ints (placesOf pre))]) (fun _ i _ => ns - (intOf i).toNat)
  case atStart => exact ⟨0, none, 0, by omega, rfl, rfl, HS2.out⟩
  case round =>
    clear HS2
    obtain ⟨k, A, c, hk, rfl, rfl, hS⟩ := hrel
    by_cases hlt : k < ns
    · have hkl : k < pre.length := by rw [HPL.out]; exact hlt
      have hkh : k < (headsL ws pre).length := by unfold headsL; rw [List.length_map]; exact hkl
      obtain ⟨ad, hA, _, had, hc⟩ := (hS.rd_ 2 rfl).at_ hlt
      have e0 := hc (.int .i64 pre[k].1) (by simp [ints, placesOf, List.getElem?_eq_getElem hkl])
      obtain ⟨q1, q2, q3, q4⟩ := HPM.out _ (List.getElem_mem hkl)
      have HT := hide (List.take_succ_eq_append_getElem hkh)
      have hX : (headsL ws pre)[k] = headOf (ws.getD pre[k].1 0) := by simp [headsL]
      rw [hX] at HT
      obtain ⟨⟨at_, len⟩, hp⟩ : ∃ p, pre[k] = p := ⟨_, rfl⟩
      rw [hp] at e0 q1 q2 q3 q4 HT
      dsimp only at e0 q1 q2 q3 q4 HT
      have hlt2 : at_ < nW := by rw [← HWL.out]; exact q1
      obtain ⟨ad2, hA2, _, had2, hc2⟩ := (hW.below hS.below_).rd.at_ hlt2
      have e1 := hc2 (.int .u64 ws[at_]) (by simp [u64s, List.getElem?_eq_getElem q1])
      have hb := hW.wf _ (List.getElem_mem q1)
      have hgd : ws.getD at_ 0 = ws[at_] := by rw [List.getD_eq_getElem?_getD, List.getElem?_eq_getElem q1]; rfl
      obtain ⟨x, hx⟩ : ∃ x, ws[at_] = x := ⟨_, rfl⟩
      rw [hgd, hx] at HT q2 q3
      rw [hx] at e1 hb
      have C := hide (fun w' => unheadR_ok w' x hb.1 hb.2 q2)
      obtain ⟨g1, g2, g3, g4⟩ := hS.rules 1 (g := w.heap.size) (t := 55) rfl
      have HS := hide hS
      rw [hA]
      have HA := hide hA
      subst hA2
      clear hc hc2 q1 q2 q3 q4 hb hgd hx hp hX hS hA had2
      go_wp2_with fail
      refine (C.out _).mono ?_
      rintro e w3 ⟨rfl, hb3⟩
      have hS3 := (HS.out.below hb3).alloc (.cells #[.int .i64 (hLen x), .bool (hMark x), .int .i64 (hAge x)] 23)
      clear g1 g2 g3 g4 e0 e1 had C hb3
      go_wp2_with (first
        | (at_builtin
           refine wpList_app1 (cs := #[.int .i64 (hLen x), .bool (hMark x), .int .i64 (hAge x)]) rfl (.tmp 31) (.tmp 33) 61 rfl sHead hS3 0 (n := k) rfl rfl rfl (by simp) rfl rfl (by omega) ?_
           intro A4 c4 w4 hS4 hC4))
      go_roundw
      case rel => exact ⟨k + 1, A4, c4, by omega, by go_num, rfl, by rw [HT.out, hcells_snoc, ← HA.out]; exact hS4⟩
      case measure => simp [intOf]; omega
    · obtain rfl : k = ns := by omega
      rw [show (headsL ws pre).take k = headsL ws pre from List.take_of_length_le (by unfold headsL; rw [List.length_map, HPL.out]; omega)] at hS
      go_wp2_with fail
      go_ret
      exact ⟨A, k, c, rfl, by omega, hS.sub (by simp)⟩

set_option maxRecDepth 100000 in
set_option maxHeartbeats 4000000 in
theorem headsOf_any (w : World) (AW AR Al : Option Addr) (nW cW nR cR nl cl : Nat) (o : Int) (ws l : List Int) (hW : WsIn w AW nW cW ws) (hn : nW ≤ 256) (hok : (parse nW ws 0).2 = true) (hl : Rd w (fun _ => True) 1 Al nl (ints l)) (hnl : nl ≤ 1000) (ho : 0 ≤ o ∧ o ≤ 7) (hlr : ∀ x ∈ l, 0 ≤ x ∧ x < ((parse nW ws 0).1.length : Int)) :
    Calls Try.prog 69 #[.agg #[.slice AW nW cW, .slice AR nR cR], .slice Al nl cl, .int .i64 o] w fun e w' => ∃ A c, e = .returned (.slice A nl c) ∧ Sep No w w' [rowI 23 3 A nl c (hcells (headsAt (headsL ws (parse nW ws 0).1) l o))] := by
  have hS0 := (Sep.nil No w).blkAt 55 #[.slice AW nW cW, .slice AR nR cR] rfl
  obtain ⟨a1, a2, a3, a4⟩ := hS0.rules 0 (g := w.heap.size) (t := 55) rfl
  have HS0 := hide hS0
  have C1 := hide (heads_any _ AW AR nW cW nR cR ws (hW.below hS0.below_) hn hok)
  have HLR := hide hlr
  have HLL := hide (show l.length = nl by have := hl.1; simpa using this)
  have HOK := hide (headsL_ok (nW := nW) (ws := ws) (fun x hx => (hW.wf x hx).1))
  have HHL := hide (show (headsL ws (parse nW ws 0).1).length = (parse nW ws 0).1.length by unfold headsL; rw [List.length_map])
  obtain ⟨hs, hhs⟩ : ∃ hs, headsL ws (parse nW ws 0).1 = hs := ⟨_, rfl⟩
  rw [hhs] at HHL C1 HOK ⊢
  rw [← HHL.out] at HLR
  obtain ⟨ho1, ho2⟩ := ho
  clear hS0 hok hlr hhs
  go_enter Try.func69, Try.ntmps69
  go_wp2_with fail
  refine C1.out.mono ?_
  rintro e w1 ⟨As, ns, cs, rfl, hns, hP⟩
  have hpl : hs.length = ns := by have := (hP.rd_ 0 rfl).1; rw [hcells_length] at this; omega
  have hS2 := (HS0.out.snocNew hP.below_ _ (hP.get 0 rfl) (fun g hg => (hP.lo 0 rfl g hg).resolve_left (fun h => h))).nilRow0 23 3
  have HS2 := hide hS2
  have HPL := hide hpl
  clear a1 a2 a3 a4 hS2 HS0 hP C1 hpl HHL
  go_wp2_with fail
  go_loopw [8, 16] (fun s5 i wr => ∃ (k : Nat) (A : Option Addr) (c : Nat), k ≤ nl ∧ i = .int .i64 k ∧ s5 = .slice A k c ∧ Sep No w wr [rowI 23 3 A k c (hcells ((headsAt hs l o).take k)), blkI w.heap.size 55 #[.slice AW nW cW, .slice AR nR cR], rowI 23 3 As ns cs (hcells hs)]) (fun _ i _ => nl - (intOf i).toNat)
  case atStart => exact ⟨0, none, 0, by omega, rfl, rfl, HS2.out⟩
  case round =>
    clear HS2
    obtain ⟨k, A, c, hk, rfl, rfl, hS⟩ := hrel
    by_cases hlt : k < nl
    · have hkl : k < l.length := by rw [HLL.out]; exact hlt
      have hkh : k < (headsAt hs l o).length := by unfold headsAt; rw [List.length_map]; exact hkl
      obtain ⟨ad, hA, _, had, hc⟩ := (hl.below hS.below_).at_ hlt
      have e0 := hc (.int .i64 l[k]) (by simp [ints, List.getElem?_eq_getElem hkl])
      obtain ⟨r1, r2⟩ := HLR.out _ (List.getElem_mem hkl)
      have HT := hide (List.take_succ_eq_append_getElem hkh)
      have hX : (headsAt hs l o)[k] = older o (hs.getD l[k].toNat (0, false, 0)) := by simp [headsAt]
      rw [hX] at HT
      obtain ⟨x, hx⟩ := int_nat r1
      rw [hx] at e0 r2 HT
      have hxl : x < hs.length := by omega
      have hxn : x < ns := by rw [← HPL.out]; exact hxl
      have hgd : hs.getD ((x : Int)).toNat (0, false, 0) = hs[x] := by rw [List.getD_eq_getElem?_getD]; simp [List.getElem?_eq_getElem hxl]
      rw [hgd] at HT
      obtain ⟨v0, v1, v2⟩ := hcells_at hs x hxl
      obtain ⟨ad2, hA2, _, had2, hc2, hd2⟩ := (hS.rd_ 2 rfl).atN hxn
      have t0 := hc2 _ v0
      have t1 := hd2 0 _ v1
      have t2 := hd2 1 _ v2
      obtain ⟨q1, q2, q3, q4⟩ := HOK.out _ (List.getElem_mem hxl)
      obtain ⟨⟨len, mk, ag⟩, hh⟩ : ∃ h, hs[x] = h := ⟨_, rfl⟩
      rw [hh] at t0 t1 t2 q1 q2 q3 q4 HT
      dsimp only at t0 t1 t2 q1 q2 q3 q4
      have i0 : (0 : Int) ≤ x := by omega
      rw [hA2]
      have HA2 := hide hA2
      subst hA
      have HS := hide hS
      clear hc hc2 hd2 v0 v1 v2 hh hgd hx hX r1 r2 hS hA2
      by_cases h7 : 7 < ag + o
      · have HX := hide (show older o (len, mk, ag) = (len, false, 7) from by unfold older; rw [if_pos h7])
        have k7 : decide ((7 : Int) < ag + o) = true := by simp [h7]
        have hS3 := HS.out.alloc (.cells #[.int .i64 len, .bool false, .int .i64 7] 23)
        clear h7
        go_wp2_with (first
          | (at_builtin
             refine wpList_app1 (cs := #[.int .i64 len, .bool false, .int .i64 7]) rfl (.tmp 34) (.tmp 36) 61 rfl sHead hS3 0 (n := k) rfl rfl rfl (by simp) rfl rfl (by omega) ?_
             intro A4 c4 w4 hS4 hC4))
        go_roundw
        case rel => exact ⟨k + 1, A4, c4, by omega, by go_num, rfl, by rw [HT.out, HX.out, hcells_snoc, ← HA2.out]; exact hS4⟩
        case measure => simp [intOf]; omega
      · have HX := hide (show older o (len, mk, ag) = (len, false, ag + o) from by unfold older; rw [if_neg h7])
        have k7 : decide ((7 : Int) < ag + o) = false := by simp [h7]
        have hS3 := HS.out.alloc (.cells #[.int .i64 len, .bool false, .int .i64 (ag + o)] 23)
        clear h7
        go_wp2_with (first
          | (at_builtin
             refine wpList_app1 (cs := #[.int .i64 len, .bool false, .int .i64 (ag + o)]) rfl (.tmp 34) (.tmp 36) 61 rfl sHead hS3 0 (n := k) rfl rfl rfl (by simp) rfl rfl (by omega) ?_
             intro A4 c4 w4 hS4 hC4))
        go_roundw
        case rel => exact ⟨k + 1, A4, c4, by omega, by go_num, rfl, by rw [HT.out, HX.out, hcells_snoc, ← HA2.out]; exact hS4⟩
        case measure => simp [intOf]; omega
    · obtain rfl : k = nl := by omega
      rw [show (headsAt hs l o).take k = headsAt hs l o from List.take_of_length_le (by unfold headsAt; rw [List.length_map, HLL.out]; omega)] at hS
      go_wp2_with fail
      go_ret
      exact ⟨A, c, rfl, hS.sub (by simp)⟩
end Go.Proofs.Ytpbafmdebflbpaa

namespace Go.Proofs.Ytpbafmdebflbpaa
open Go.RowKit Go.Maps

def plc (pre : List (Nat × Nat)) (i : Int) : Nat := (pre.getD i.toNat (0, 0)).1
def lenO (pre : List (Nat × Nat)) (i : Int) : Nat := (pre.getD i.toNat (0, 0)).2
def sumO (pre : List (Nat × Nat)) (l : List Int) : Nat := (l.map fun i => 1 + lenO pre i).sum
def newAt (pre : List (Nat × Nat)) (l : List Int) (i : Int) : Nat := sumO pre (l.take (l.idxOf i))
/-- A map says where the objects of a list stand. -/
structure NowOk (pre : List (Nat × Nat)) (l : List Int) (D : DataW Unit) : Prop where
  map : IsMap D
  has : ∀ i : Int, 0 ≤ i → i < pre.length → Maps.has D (.int .i64 (plc pre i)) = decide (i ∈ l)
  at_ : ∀ i : Int, 0 ≤ i → i < pre.length → i ∈ l → ∀ z, D.atKey (.int .i64 (plc pre i)) z = .lit (.int .i64 (newAt pre l i))

theorem sumO_snoc (pre : List (Nat × Nat)) (l : List Int) (i : Int) : sumO pre (l ++ [i]) = sumO pre l + (1 + lenO pre i) := by simp [sumO]
theorem idxOf_append_left {l m : List Int} {i : Int} (h : i ∈ l) : (l ++ m).idxOf i = l.idxOf i := by rw [List.idxOf_append, if_pos h]
theorem newAt_pre {pre : List (Nat × Nat)} {l m : List Int} {i : Int} (hp : l <+: m) (h : i ∈ l) : newAt pre m i = newAt pre l i := by
  obtain ⟨r, rfl⟩ := hp
  unfold newAt
  rw [idxOf_append_left h, List.take_append_of_le_length (by have := List.idxOf_lt_length_of_mem h; omega)]
theorem newAt_last {pre : List (Nat × Nat)} {l : List Int} {i : Int} (h : i ∉ l) : newAt pre (l ++ [i]) i = sumO pre l := by
  unfold newAt
  rw [List.idxOf_append, if_neg h]
  simp
theorem plc_inj {nW : Nat} {ws : List Int} {i j : Int} (hi0 : 0 ≤ i) (hi : i < (parse nW ws 0).1.length) (hj0 : 0 ≤ j) (hj : j < (parse nW ws 0).1.length) (h : plc (parse nW ws 0).1 i = plc (parse nW ws 0).1 j) : i = j := by
  have hp := parse_rise nW ws 0
  generalize (parse nW ws 0).1 = pre at *
  rw [List.pairwise_iff_getElem] at hp
  have e1 : plc pre i = (pre[i.toNat]'(by omega)).1 := by unfold plc; rw [List.getD_eq_getElem?_getD, List.getElem?_eq_getElem (by omega)]; rfl
  have e2 : plc pre j = (pre[j.toNat]'(by omega)).1 := by unfold plc; rw [List.getD_eq_getElem?_getD, List.getElem?_eq_getElem (by omega)]; rfl
  rw [e1, e2] at h
  rcases Nat.lt_trichotomy i.toNat j.toNat with h1 | h1 | h1
  · have := hp _ _ (by omega) (by omega) h1; omega
  · omega
  · have := hp _ _ (by omega) (by omega) h1; omega
theorem nowOk_nil (pre : List (Nat × Nat)) : NowOk pre [] (.map []) := ⟨⟨[], rfl⟩, fun _ _ _ => by simp [Maps.has], fun i _ _ h => by simp at h⟩
theorem NowOk.put {nW : Nat} {ws : List Int} {l : List Int} {D : DataW Unit} {i : Int} (h : NowOk (parse nW ws 0).1 l D) (hi0 : 0 ≤ i) (hi : i < (parse nW ws 0).1.length) (hn : i ∉ l) :
    NowOk (parse nW ws 0).1 (l ++ [i]) (D.put (.int .i64 (plc (parse nW ws 0).1 i)) (.lit (.int .i64 (sumO (parse nW ws 0).1 l)))) := by
  have hinj := fun j hj0 hj => plc_inj (nW := nW) (ws := ws) (i := j) (j := i) hj0 hj hi0 hi
  generalize (parse nW ws 0).1 = pre at *
  refine ⟨?_, fun j hj0 hj => ?_, fun j hj0 hj hm z => ?_⟩
  · obtain ⟨es, rfl⟩ := h.map; exact ⟨_, rfl⟩
  · by_cases e : j = i
    · subst e
      rw [has_put_same (k := Lit.int .i64 (plc pre j : Int)) h.map trivial]
      simp
    · rw [has_put_other (by intro e2; injection e2 with _ e2; exact e (hinj j hj0 hj (by omega))), h.has j hj0 hj]
      simp [e]
  · by_cases e : j = i
    · subst e
      rw [atKey_put_same (k := Lit.int .i64 (plc pre j : Int)) h.map trivial, newAt_last hn]
    · have hm2 : j ∈ l := by simpa [e] using hm
      rw [atKey_put_other (by intro e2; injection e2 with _ e2; exact e (hinj j hj0 hj (by omega))), h.at_ j hj0 hj hm2 z, newAt_pre (List.prefix_append _ _) hm2]

/-! ### How much room objects take. -/
theorem parse_sum (f : Nat) : ∀ (ws : List Int) (a : Nat), a ≤ ws.length → (∀ x ∈ ws, 0 ≤ x) → ((parse f ws a).1.map fun p => 1 + p.2).sum + a ≤ ws.length := by
  induction f with
  | zero => intro ws a h _; simpa [parse] using h
  | succ f ih =>
    intro ws a h hw
    unfold parse
    split
    · rename_i h1
      split
      · rename_i h2
        have h0 : 0 ≤ hLen (ws.getD a 0) := by unfold hLen; omega
        have := ih ws (a + 1 + (hLen (ws.getD a 0)).toNat) (by omega) hw
        simp only [List.map_cons, List.sum_cons]
        omega
      · simpa using h
    · simpa using h
theorem sumO_le {nW : Nat} {ws l : List Int} (hw : ∀ x ∈ ws, 0 ≤ x) (h : OrdOk (parse nW ws 0).1.length l) : sumO (parse nW ws 0).1 l ≤ ws.length := by
  have h1 := parse_sum nW ws 0 (Nat.zero_le _) hw
  generalize (parse nW ws 0).1 = pre at *
  have h2 := nodup_sum (fun i => 1 + lenO pre i) l ((List.range pre.length).map Int.ofNat) h.nodup (fun x hx => by
    obtain ⟨a, b⟩ := h.rng x hx
    exact List.mem_map.2 ⟨x.toNat, List.mem_range.2 (by omega), by show ((x.toNat : Nat) : Int) = x; omega⟩)
  have h3 : (((List.range pre.length).map Int.ofNat).map fun i => 1 + lenO pre i) = pre.map fun p => 1 + p.2 := by
    rw [List.map_map]
    refine List.ext_getElem (by simp) fun k hk1 hk2 => ?_
    simp only [List.length_map, List.length_range] at hk1 hk2
    simp [lenO, List.getD_eq_getElem?_getD, List.getElem?_eq_getElem hk1]
  rw [h3] at h2
  unfold sumO
  omega
theorem newAt_lt {nW : Nat} {ws l : List Int} {i : Int} (hw : ∀ x ∈ ws, 0 ≤ x) (h : OrdOk (parse nW ws 0).1.length l) (hi : i ∈ l) : newAt (parse nW ws 0).1 l i + 1 + lenO (parse nW ws 0).1 i ≤ ws.length := by
  have h1 := sumO_le hw h
  generalize (parse nW ws 0).1 = pre at *
  have hk : l.idxOf i < l.length := List.idxOf_lt_length_of_mem hi
  have e : l = l.take (l.idxOf i) ++ i :: l.drop (l.idxOf i + 1) := by
    conv => lhs; rw [← List.take_append_drop (l.idxOf i) l, List.drop_eq_getElem_cons hk, List.getElem_idxOf hk]
  have h2 : sumO pre l = newAt pre l i + (1 + lenO pre i) + sumO pre (l.drop (l.idxOf i + 1)) := by
    unfold newAt
    conv => lhs; rw [e]
    unfold sumO
    simp
    omega
  omega

/-! ### Words as they are when objects have moved. -/
def transW (pre : List (Nat × Nat)) (l : List Int) (x : Int) : Int := if unR x = true then 2 * (newAt pre l (ixOf pre (unA x)) : Int) else x
def rawO (ws : List Int) (pre : List (Nat × Nat)) (o i : Int) : List Int := (headW (older o (headOf (ws.getD (plc pre i) 0))).1 false (older o (headOf (ws.getD (plc pre i) 0))).2.2) :: (ws.drop (plc pre i + 1)).take (lenO pre i)
theorem ix_nn (pre : List (Nat × Nat)) (y : Int) : (0 : Int) ≤ (ixOf pre y : Nat) := by omega
end Go.Proofs.Ytpbafmdebflbpaa
