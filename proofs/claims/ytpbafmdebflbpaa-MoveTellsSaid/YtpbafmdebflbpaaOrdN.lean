/- The reference's Renumber. -/
import Derived.Test.YtpbafmdebflbpaaOrdO
namespace Go.Proofs.Ytpbafmdebflbpaa
open Go.RowKit

def renumF (fss : List (List Val)) (l : List Int) : List (List Val) := l.map fun x => (fieldsI fss x).map (turnL l)
theorem renumF_take (fss : List (List Val)) (l : List Int) (k : Nat) (h : k < l.length) : (renumF fss l).take (k + 1) = (renumF fss l).take k ++ [(fieldsI fss l[k]).map (turnL l)] := by
  have h2 : k < (renumF fss l).length := by unfold renumF; rw [List.length_map]; exact h
  rw [List.take_succ_eq_append_getElem h2]
  simp [renumF]
theorem obs_snoc_ (l : List Ob) (o : Ob) : (l ++ [o]).map Ob.val = l.map Ob.val ++ [Value.slice o.A o.n o.c] := by simp [Ob.val]

set_option maxRecDepth 100000 in
set_option maxHeartbeats 16000000 in
theorem renumber_any (w : World) (v : Value) (Al : Option Addr) (nl cl : Nat) (fss : List (List Val)) (roots : List Val) (l : List Int) (h : GraphRd w (fun _ => True) v fss roots) (hl : Rd w (fun _ => True) 1 Al nl (ints l)) (hlr : ∀ x ∈ l, 0 ≤ x ∧ x < (fss.length : Int)) (hn : fss.length ≤ 1000) (hnl : nl ≤ 1000) (hr : roots.length ≤ 1000) (hf : ∀ fs ∈ fss, fs.length ≤ 1000) :
    Calls Try.prog 68 #[v, .slice Al nl cl] w fun e w' => ∃ v', e = .returned v' ∧ Below w.heap.size w w' ∧ GraphRd w' (fun g => w.heap.size ≤ g) v' (renumF fss l) (roots.map (turnL l)) := by
  obtain ⟨AO, nO, cO, AR, nR, cR, obs, rfl, hO, h3, hR⟩ := h.ex
  have HRL := hide (show roots.length = nR by have := hR.1; rw [vals_length] at this; omega)
  have HLL := hide (show l.length = nl by have := hl.1; simpa using this)
  have HOL := hide hO.len
  have hlen : fss.length = nO := by rw [← h3, List.length_map]; exact hO.len
  rw [hlen] at hlr hn
  have HF := hide hf
  have H3 := hide h3
  have HLR := hide hlr
  have hnR : nR ≤ 1000 := by have := HRL.out; omega
  have hS0 := ((Sep.nil No w).blkAt 52 #[.slice AO nO cO, .slice AR nR cR] rfl).blkAt 52 #[.slice none 0 0, .slice none 0 0] (g := w.heap.size + 1) (by simp)
  obtain ⟨a1, a2, a3, a4⟩ := hS0.rules 0 (g := w.heap.size) (t := 52) rfl
  have HS0 := hide hS0
  have C1 := hide (turned_any _ AR Al nR cR nl cl roots l hnR hnl (hR.below hS0.below_) (hl.below hS0.below_))
  clear hlr hf h3 hlen hr h hS0
  go_enter Try.func68, Try.ntmps68
  go_wp2_with fail
  refine C1.out.mono ?_
  rintro e w3 ⟨Ar, cr, rfl, hP⟩
  have hS5 := ((HS0.out.snocNew hP.below_ _ (hP.get 0 rfl) (fun g hg => (hP.lo 0 rfl g hg).resolve_left (fun h => h))).blkAt 52 #[.slice none 0 0, .slice Ar nR cr] rfl).nilRow0 110 1
  have HS5 := hide hS5
  clear a1 a2 a3 a4 hS5 HS0 hP C1
  go_wp2_with fail
  go_loopw [15] (fun i wr => ∃ (k : Nat) (A' : Option Addr) (c' : Nat) (obs' : List Ob), k ≤ nl ∧ i = .int .i64 k ∧ Hid (obs'.map Ob.fields = (renumF fss l).take k) ∧
    Sep No w wr (rowI 110 1 A' k c' (obs'.map Ob.val) :: blkI w.heap.size 52 #[.slice AO nO cO, .slice AR nR cR] :: blkI (w.heap.size + 1) 52 #[.slice none 0 0, .slice none 0 0] :: rowI 32 2 Ar nR cr (vals (roots.map (turnL l))) :: blkI w3.heap.size 52 #[.slice A' k c', .slice Ar nR cr] :: obs'.map obI)) (fun i _ => nl - (intOf i).toNat)
  case atStart => exact ⟨0, none, 0, [], by omega, rfl, by simp [Hid], HS5.out⟩
  case round =>
    clear HS5
    obtain ⟨k, A', c', obs', hk, rfl, HO, hS⟩ := hrel
    by_cases hlt : k < nl
    · have hkl : k < l.length := by rw [HLL.out]; exact hlt
      obtain ⟨ad, hA, _, had, hc⟩ := (hl.below hS.below_).at_ hlt
      have e0 := hc (.int .i64 l[k]) (by simp [ints, List.getElem?_eq_getElem hkl])
      obtain ⟨r1, r2⟩ := HLR.out _ (List.getElem_mem hkl)
      have HT := hide (renumF_take fss l k hkl)
      obtain ⟨x, hx⟩ := int_nat r1
      rw [hx] at e0 r2 HT
      have hxn : x < nO := by omega
      have hxl : x < obs.length := by rw [HOL.out]; exact hxn
      obtain ⟨ad2, hA2, _, had2, hc2⟩ := (hO.below hS.below_).row.at_ hxn
      have e1 := hc2 obs[x].val (by simp [List.getElem?_eq_getElem hxl])
      have hEach := hO.each _ (List.getElem_mem hxl)
      have hFl := hO.flen (List.getElem_mem hxl)
      have hfi : fieldsI fss (x : Int) = obs[x].fields := by
        unfold fieldsI
        rw [← H3.out, List.getD_eq_getElem?_getD]
        simp [List.getElem?_eq_getElem hxl]
      have hfb := HF.out _ (show obs[x].fields ∈ fss by rw [← H3.out]; exact List.mem_map.2 ⟨_, List.getElem_mem hxl, rfl⟩)
      obtain ⟨o, ho⟩ : ∃ o, obs[x] = o := ⟨_, rfl⟩
      rw [hfi] at HT
      rw [ho] at e1 hEach hFl hfb HT
      unfold Ob.val at e1
      rw [hFl] at hfb
      have C := hide (fun w' (hb : Below w.heap.size w w') => turned_any w' o.A Al o.n o.c nl cl o.fields l hfb hnl (hEach.below hb) (hl.below hb))
      obtain ⟨i1, i2, i3, i4⟩ := hS.rules 1 (g := w.heap.size) (t := 52) rfl
      obtain ⟨j1, j2, j3, j4⟩ := hS.rules 4 (g := w3.heap.size) (t := 52) rfl
      have i5 : wr.cell? ⟨w.heap.size, 0, none⟩ = some (.slice AO nO cO) := by rw [i1]; rfl
      have j5 : wr.cell? ⟨w3.heap.size, 0, none⟩ = some (.slice A' k c') := by rw [j1]; rfl
      have i0 : (0 : Int) ≤ x := by omega
      subst hA hA2
      have HS := hide hS
      clear hc hc2 r1 r2 hx hfi hFl hfb hEach ho hS i1 j1 i4 j4 had2
      go_wp2_with fail
      clear e0
      go_region_law (first
        | (refine step_app1 (cs := #[.slice A5 o.n c5]) rfl (.tmp 20) (.tmp 30) 49 rfl (F := No) (W := w) sObj (items := _ :: _ :: _ :: _ :: _ :: _) hS5 0 (n := k) rfl rfl rfl (by simp) rfl rfl (by omega) ?_
           intro A7 c7 w7 hS7 hC7
           obtain ⟨z1, z2, z3, z4⟩ := hS7.rules 4 (g := w3.heap.size) (t := 52) rfl
           (have z5 : w7.cell? ⟨w3.heap.size, 0, none⟩ = some (.slice A' k c') := by rw [z1]; rfl)
           clear z1 z4 hC7)
        | (try go_simp
           go_at_call 102
           refine (C.out wr.drew HS.out.drew.below_).mono ?_
           rintro e w4 ⟨A5, c5, rfl, hP5⟩
           have hS5 := HS.out.drew.snocNew hP5.below_ _ (hP5.get 0 rfl) (fun g hg => (hP5.lo 0 rfl g hg).resolve_left (fun h => h))
           obtain ⟨x1, x2, x3, x4⟩ := hS5.rules 4 (g := w3.heap.size) (t := 52) rfl
           (have x5 : w4.cell? ⟨w3.heap.size, 0, none⟩ = some (.slice A' k c') := by rw [x1]; rfl)
           clear x1 x4))
      all_goals
        go_wp2_with fail
        go_roundw
        case rel =>
          refine ⟨k + 1, A7, c7, obs' ++ [⟨A5, o.n, c5, o.fields.map (turnL l)⟩], by omega, by go_num, ?_, ?_⟩
          · show _ = _
            rw [HT.out, ← HO.out]
            simp
          · rw [obs_snoc_, List.map_append]
            exact hS7.set_ 4 (g := w3.heap.size) (t := 52) rfl 0 (.slice A7 (k + 1) c7)
        case measure => simp [intOf]; omega
    · obtain rfl : k = nl := by omega
      have hO2 : obs'.map Ob.fields = renumF fss l := by
        rw [HO.out]; exact List.take_of_length_le (by unfold renumF; rw [List.length_map, HLL.out]; omega)
      have HO2 := hide hO2
      obtain ⟨j1, j2, j3, j4⟩ := hS.rules 4 (g := w3.heap.size) (t := 52) rfl
      obtain ⟨y1, y2, y3, y4⟩ := hS.rules 2 (g := w.heap.size + 1) (t := 52) rfl
      have HS := hide hS
      clear hO2 hS HO
      go_wp2_with fail
      have hF := (HS.out.set_ 2 (g := w.heap.size + 1) (t := 52) rfl 0 (.slice A' k c')).set_ 2 (g := w.heap.size + 1) (t := 52) rfl 1 (.slice Ar nR cr)
      refine bodyPost_ret (v := .agg #[.slice A' k c', .slice Ar nR cr]) (by simp [results, Try.results68, go_sem, y1]) rfl ⟨_, rfl, hF.below_, ?_⟩
      refine ⟨_, _, _, _, _, _, obs', rfl, obs_read hF (fun o ho => ?_) 0 rfl, HO2.out, hF.rd 3 rfl⟩
      simp only [List.set_cons_succ, List.set_cons_zero, List.mem_cons, List.mem_map]
      exact .inr (.inr (.inr (.inr (.inr ⟨o, ho, rfl⟩))))
end Go.Proofs.Ytpbafmdebflbpaa
