/- Visits: visit.Visit. Visits: the reference's walk. Visits: the reference's Visit. -/
import Derived.Test.YtpbafmdebflbpaaGVisitTells1
import Derived.Test.YtpbafmdebflbpaaGMarkTells21
import Derived.StillTailTactics
import Derived.Test.YtpbafmdebflbpaaGVisitTells0
import Derived.Test.YtpbafmdebflbpaaGMarkTells4
import Derived.Deep.DeepCutAuto
import Derived.Deep.RegionLaw
import Derived.Test.YtpbafmdebflbpaaGSlideTells0
import Derived.Test.YtpbafmdebflbpaaGMarkTells19
set_option linter.unusedSimpArgs false
set_option linter.unusedVariables false
namespace Go.Proofs.Ytpbafmdebflbpaa
open Go.RowKit Go.Maps

theorem perm_v5 {α : Type} (wr rr a b o m c q : α) : [wr, rr, a, b, o, m, c, q].Perm [wr, q, m, c, rr, a, b, o] := by
  classical
  rw [List.perm_iff_count]
  intro x
  simp only [List.count_cons, List.count_nil]
  omega
theorem perm_v3 {α : Type} (a b c : α) : [a, b, c].Perm [a, c, b] := by
  classical
  rw [List.perm_iff_count]
  intro x
  simp only [List.count_cons, List.count_nil]
  omega
def ViAll (m : Nat) (ws : List Int) (pre : List (Nat × Nat)) (Aw Ao : Option Addr) (nw cw b nn no co : Nat) (D : DataW Unit) (l rs : List Int) (w : World) (B : Nat) (AW AR Ar : Option Addr) (cW nr cR cr : Nat) : List Item :=
  [allI (ViI m ws pre Aw Ao nw cw b nn no co D (fldN ws pre) l), rowI 24 1 Ar nr cr (u64s rs), blkI w.heap.size 55 #[.slice AW nw cW, .slice AR nr cR], blkI (w.heap.size + 1) 55 #[.slice none 0 0, .slice none 0 0], blkI B 55 #[.slice Aw nw cw, .slice Ar nr cr]]

set_option maxRecDepth 100000 in
set_option maxHeartbeats 32000000 in
theorem visitTop_ok (w : World) (AW AR : Option Addr) (nW cW nR cR : Nat) (ws rs : List Int) (hW : WsIn w AW nW cW ws) (hR : WsIn w AR nR cR rs) (hz : acheck nW nR ws rs = 0) :
    Calls Try.prog 43 #[.agg #[.slice AW nW cW, .slice AR nR cR]] w fun e w' => ∃ A c A' c' A2 n2 c2, e = .returned (.tuple #[.agg #[.slice A nW c, .slice A' nR c'], .slice A2 n2 c2, .int .i64 0]) ∧
      Sep No w w' [rowI 24 1 A nW c (u64s (mkW ws (parse nW ws 0).1 (refS nW ws rs))), rowI 24 1 A' nR c' (u64s rs), rowI 3 1 A2 n2 c2 (ints (plcs (parse nW ws 0).1 (walkN (graphOf ws (parse nW ws 0).1) [rs.map (turnW (ixOf (parse nW ws 0).1))] [])))] := by
  obtain ⟨h1, h2, h3, h4⟩ := acheck_zero hz
  have hok : ArnOk nW ws := ⟨hW.len, h1, fun x hx => (hW.wf x hx).1, h3⟩
  have hgood := good_arn hW hR hz
  have hgf : ∀ x ∈ fieldsOf ws (parse nW ws 0).1, GoodW (parse nW ws 0).1 x := fun x hx => hgood x (List.mem_append_right _ hx)
  have hgr : ∀ x ∈ rs, GoodW (parse nW ws 0).1 x := fun x hx => hgood x (List.mem_append_left _ hx)
  have hS0 := ((Sep.nil No w).blkAt 55 #[.slice AW nW cW, .slice AR nR cR] rfl).blkAt 55 #[.slice none 0 0, .slice none 0 0] (g := w.heap.size + 1) (by simp)
  obtain ⟨a1, a2, a3, a4⟩ := hS0.rules 0 (g := w.heap.size) (t := 55) rfl
  have HS0 := hide hS0
  have C1 := hide (arenaCheck_any _ AW AR nW cW nR cR ws rs (hW.below hS0.below_) (hR.below hS0.below_))
  rw [hz] at C1
  have C2 := hide (fun w' (hb : Below w.heap.size w w') => cleared_any w' AW AR nW cW nR cR ws rs (hW.below hb) (hR.below hb) hok h2)
  have CLB := hide (fun wr m Aw Ao cw b nn no co D d l r hs hst hr hrl hno => climb_any wr m ws Aw Ao nW cw b nn no co D d l r hs hok hgf hst hr hrl hno)
  have HEND := hide (walk_marks hgr hgf)
  have HROOT := hide (fun l R j x hj h => walk_root (nW := nW) (ws := ws) (rs := rs) (l := l) (R := R) (j := j) (x := x) hgr hgf hj h)
  have HST0 := hide (show VSt nW ws (fun _ => 0) (.map []) 0 [] from ⟨dnOk_nil _, fun _ _ => Nat.zero_le _, fun _ _ _ => rfl, OrdOk.nil _, Nat.zero_le _⟩)
  have HMK0 := hide (show mkW ws (parse nW ws 0).1 (fun _ => false) = mkG ws (parse nW ws 0).1 (Sl []) (fldN ws (parse nW ws 0).1) from by
    rw [mkW_mkG]; exact g_congr (fun i _ => by simp [Sl]) (fun _ _ => rfl))
  have HGR := hide hgr
  have HRL := hide hR.len
  have HRR := hide hR
  have HOBJ := hide (fun i hi => hok.obj (i := i) hi)
  have HGH := hide (fun g i hg hi S => g_head (g := g) (i := i) hok hg hi S)
  have HFLN := hide (fldN_len hok)
  obtain ⟨Sref, hSref⟩ : ∃ S, refS nW ws rs = S := ⟨_, rfl⟩
  rw [hSref] at HEND ⊢
  have hpl := pre_len hok
  obtain ⟨pre, hpre⟩ : ∃ pre, (parse nW ws 0).1 = pre := ⟨_, rfl⟩
  have HPRE := hide hpre
  rw [hpre] at C2 CLB HEND HROOT HMK0 HGR HOBJ HGH HFLN hpl ⊢
  obtain ⟨gs, hgs⟩ : ∃ gs, graphOf ws pre = gs := ⟨_, rfl⟩
  rw [hgs] at CLB HEND HROOT ⊢
  obtain ⟨R, hRw⟩ : ∃ R, walkN gs [rs.map (turnW (ixOf pre))] [] = R := ⟨_, rfl⟩
  rw [hRw] at HEND ⊢
  have HRW := hide (show walkN gs [(rs.drop 0).map (turnW (ixOf pre))] [] = R from hRw)
  have hmm := @run_makeMap Try.prog
  clear hS0 hz h3 h4 hok hgood hgf hgr hSref hpre hgs hR hW hRw
  go_enter Try.func43, Try.ntmps43
  go_wp2_with fail
  refine C1.out.mono ?_
  rintro e w1 ⟨rfl, hb1⟩
  have hS1 := HS0.out.below hb1
  clear a1 a2 a3 a4 C1
  obtain ⟨a1, a2, a3, a4⟩ := hS1.rules 0 (g := w.heap.size) (t := 55) rfl
  have HS1 := hide hS1
  clear hS1 HS0
  go_wp2_with fail
  refine (C2.out _ HS1.out.below_).mono ?_
  rintro e w2 ⟨Aw, cw, Ar, cr, rfl, hP⟩
  have hS2 := HS1.out.snocNew hP.below_ (allI [rowI 24 1 Aw nW cw (u64s (mkW ws pre (fun _ => false))), rowI 24 1 Ar nR cr (u64s rs)]) ⟨hP.all, hP.apart⟩ (fun g ⟨i, hi, hg⟩ => (hP.own i hi g hg).resolve_left (fun h => h))
  have hS3 := (hS2.perm (perm_m3 _ _ _)).split
  have hS4 := hS3.blkAt 55 #[.slice Aw nW cw, .slice Ar nR cr] (g := w2.heap.size) rfl
  have hown := World.ownsMap_made (H := Unit) (w2.alloc (.cells #[.slice Aw nW cw, .slice Ar nR cr] 55)) Try.prog 3 (plainElem Try.prog 3)
  have hS5 := hS4.snocNew ((Below.refl _ _).alloc (Nat.le_refl _) (.map #[] 0)) (mapJ (w2.alloc (.cells #[.slice Aw nW cw, .slice Ar nR cr] 55)).heap.size 0 (.map [])) hown (fun g hg => by rw [show g = _ from hg]; exact Nat.le_refl _)
  rw [World.size_alloc] at hS5
  have hS6 := ((hS5.blkAt 145 #[.slice Aw nW cw, .map (some (w2.heap.size + 1)), .slice none 0 0] (g := w2.heap.size + 1 + 1) (by simp)).nilRow 3 1).perm (perm_v5 _ _ _ _ _ _ _ _)
  rw [HMK0.out] at hS6
  have hS7 : Sep No w _ (ViAll (w2.heap.size + 1 + 1) ws pre Aw none nW cw (w2.heap.size + 1) 0 0 0 (.map []) [] rs w w2.heap.size AW AR Ar cW nR cR cr) := Sep.join (l := [_, _, _, _]) hS6
  obtain ⟨q1, q2, q3, q4⟩ := hS7.rules 2 (g := w.heap.size) (t := 55) rfl
  have q5 := q1 1
  have HS7 := hide hS7
  clear hP hS7 hS6 hS5 hS4 hS3 hS2 hown a1 a2 a3 a4 HS1 C2 q1 q4
  go_wp2_with fail
  go_loopw [28] (fun k wr => ∃ (j : Nat) (d : Nat → Nat) (D : DataW Unit) (nn : Nat) (l : List Int) (Ao : Option Addr) (no co : Nat), j ≤ nR ∧ k = .int .i64 j ∧ Hid (VSt nW ws d D nn l) ∧ Hid (no = l.length) ∧ Hid (walkN gs [(rs.drop j).map (turnW (ixOf pre))] l = R) ∧ Sep No w wr (ViAll (w2.heap.size + 1 + 1) ws pre Aw Ao nW cw (w2.heap.size + 1) nn no co D l rs w w2.heap.size AW AR Ar cW nR cR cr)) (fun k _ => nR - (intOf k).toNat)
  case atStart => exact ⟨0, _, _, _, _, _, _, _, by omega, rfl, HST0, rfl, HRW, HS7.out⟩
  case round =>
    clear HS7 q2 q3 q5 HST0 HRW hmm HMK0
    obtain ⟨j, d, D, nn, l, Ao, no, co, hj, rfl, HST, HNO, HW, hS⟩ := hrel
    by_cases hlj : j < nR
    · have hjl : j < rs.length := by rw [HRL.out]; exact hlj
      obtain ⟨ad, hA, _, had, hc⟩ := (HRR.out.below hS.below_).rd.at_ hlj
      have e0 := hc (.int .u64 rs[j]) (by simp [u64s, List.getElem?_eq_getElem hjl])
      have hgx := HGR.out _ (List.getElem_mem hjl)
      have HD := List.drop_eq_getElem_cons hjl
      obtain ⟨x, hx⟩ : ∃ x, rs[j] = x := ⟨_, rfl⟩
      rw [hx] at e0 hgx HD
      obtain ⟨HR1, HR2⟩ := HROOT.out l R j x HD HW.out
      rw [hA]
      have HA := hide hA
      cases hr : unR x with
      | false =>
        have HW2 := hide (HR1 (.inl hr))
        have C := hide (ref_num wr x hgx.lo hgx.hi (hgx.num hr))
        have HS := hide hS
        clear hS hgx HD hx hc hjl HR1 HR2 hr hA
        go_wp2_with fail
        refine C.out.mono ?_
        rintro e w6 ⟨rfl, rfl⟩
        go_wp2_with fail
        go_roundw
        case rel => exact ⟨j + 1, d, D, nn, l, Ao, no, co, by omega, by go_num, HST, HNO, HW2, by first | exact HS.out | (have h9 := HS.out; rw [HA.out] at h9; exact h9)⟩
        case measure => simp [intOf]; omega
      | true =>
        obtain ⟨r1, r2, r3, r4, r5⟩ := hgx.ref hr
        obtain ⟨q, hqq⟩ : ∃ q, ixOf pre (unA x) = q := ⟨_, rfl⟩
        have r6 : (plcN pre q : Int) = x / 2 := by rw [← hqq, ← r4]; unfold plcN plc; simp
        rw [hqq] at r5 HR1 HR2
        have C := ref_ref wr x hgx.lo (by omega) r1
        rw [← r6] at C
        obtain ⟨p1, p2, p3, p4, p5, p6, p7⟩ := HOBJ.out q r5
        have hS' := hS.split
        have hrow : wr.ownsRow 0 24 1 (.slice Aw nW cw) nW (u64s (mkG ws pre (Sl l) (fldN ws pre))) := hS'.get 0 rfl
        obtain ⟨gw, hAw⟩ := own_addr hrow (by omega)
        subst hAw
        have g0 : wr.cell? ⟨gw, plcN pre q, none⟩ = some (.int .u64 (headW (lenN pre q : Int) (Sl l q) (ageN ws pre q))) := by
          rw [hrow.cellAt _ (by omega), u64s_get, HGH.out _ q HFLN.out r5]; rfl
        have MB := (mark_bits (len := (lenN pre q : Int)) (a := ageN ws pre q) (by omega) (by omega) p6 p7 (Sl l q)).2.2
        obtain ⟨hw, hhw⟩ : ∃ hw, headW (lenN pre q : Int) (Sl l q) (ageN ws pre q) = hw := ⟨_, rfl⟩
        rw [hhw] at MB g0
        obtain ⟨b1, b2, b3, b4⟩ := hS'.rules 3 (g := w2.heap.size + 1 + 1) (t := 145) rfl
        have b5 := b1 0
        have C := hide C
        by_cases hm : (q : Int) ∈ l
        · rw [if_pos (show Sl l q = true by unfold Sl; simp [hm])] at MB
          have CB := hide (bit_any wr hw 256 MB)
          have HW2 := hide (HR1 (.inr hm))
          have HS := hide hS
          clear hS hS' hrow hgx HD hx hc hjl HR1 HR2 hr r1 r2 r3 r4 r6 p2 p3 p4 p5 p6 p7 MB hhw hqq hm b1 b4 hA
          go_wp2_with fail
          refine C.out.mono ?_
          rintro e w6 ⟨rfl, rfl⟩
          go_wp2_with fail
          refine CB.out.mono ?_
          rintro e w6 ⟨rfl, rfl⟩
          go_wp2_with fail
          go_roundw
          case rel => exact ⟨j + 1, d, D, nn, l, Ao, no, co, by omega, by go_num, HST, HNO, HW2, by first | exact HS.out | (have h9 := HS.out; rw [HA.out] at h9; exact h9)⟩
          case measure => simp [intOf]; omega
        · rw [if_neg (show ¬ Sl l q = true by unfold Sl; simp [hm])] at MB
          have CB := hide (bit_any wr hw 0 MB)
          have HW2 := hide (HR2 hr hm)
          have CE := CLB.out wr (w2.heap.size + 1 + 1) (some ⟨gw, 0, none⟩) Ao cw (w2.heap.size + 1) nn no co D d l q (hS.get 0 rfl) HST.out r5 hm HNO.out
          obtain ⟨l2, hl2⟩ : ∃ l2, walkN gs [fieldsI gs (q : Int)] (l ++ [(q : Int)]) = l2 := ⟨_, rfl⟩
          rw [hl2] at CE HW2
          have CE := hide CE
          have HS := hide hS
          clear hS hS' hrow hgx HD hx hc hjl HR1 HR2 hr r1 r2 r3 r4 r6 p2 p3 p4 p5 p6 p7 MB hhw hqq hm b1 b4 hl2 HST HNO HW hA
          go_wp2_with fail
          refine C.out.mono ?_
          rintro e w6 ⟨rfl, rfl⟩
          go_wp2_with fail
          refine CB.out.mono ?_
          rintro e w6 ⟨rfl, rfl⟩
          go_wp2_with fail
          refine CE.out.mono ?_
          rintro e w7 ⟨d7, D7, nn7, Ao7, no7, co7, ⟨v, rfl⟩, hst7, hno7, hP7⟩
          have HS7 := hide (HS.out.call 0 rfl hP7)
          have HST7 := hide hst7
          have HNO7 := hide hno7
          clear hP7 CE HS hst7 hno7
          go_wp2_with fail
          go_roundw
          case rel => exact ⟨j + 1, d7, D7, nn7, l2, Ao7, no7, co7, by omega, by go_num, HST7, HNO7, HW2, by first | exact HS7.out | (have h9 := HS7.out; rw [HA.out] at h9; exact h9)⟩
          case measure => simp [intOf]; omega
    · obtain rfl : j = nR := by omega
      have HE := hide (show l = R from by
        have h9 := HW.out
        rw [List.drop_of_length_le (by rw [HRL.out]; omega), List.map_nil, walkN_pop, walkN_nil] at h9
        exact h9)
      have hS' := hS.split
      unfold ViI at hS'
      rw [HE.out, HEND.out] at hS'
      obtain ⟨b1, b2, b3, b4⟩ := hS'.rules 3 (g := w2.heap.size + 1 + 1) (t := 145) rfl
      have b5 : wr.cell? ⟨w2.heap.size + 1 + 1, 2, none⟩ = some (.slice Ao no co) := by rw [b1]; rfl
      obtain ⟨o1, o2, o3, o4⟩ := hS'.rules 7 (g := w2.heap.size) (t := 55) rfl
      have o5 : wr.cell? ⟨w2.heap.size, 0, none⟩ = some (.slice Aw nW cw) := by rw [o1]; rfl
      have o6 : wr.cell? ⟨w2.heap.size, 1, none⟩ = some (.slice Ar j cr) := by rw [o1]; rfl
      obtain ⟨z1, z2, z3, z4⟩ := hS'.rules 6 (g := w.heap.size + 1) (t := 55) rfl
      have z5 : wr.cell? ⟨w.heap.size + 1, 0, none⟩ = some (.slice none 0 0) := by rw [z1]; rfl
      have z6 : wr.cell? ⟨w.heap.size + 1, 1, none⟩ = some (.slice none 0 0) := by rw [z1]; rfl
      have hF := (((hS'.drew).set_ 6 (g := w.heap.size + 1) (t := 55) rfl 0 (.slice Aw nW cw)).set_ 6 (g := w.heap.size + 1) (t := 55) rfl 1 (.slice Ar j cr))
      have HF := hide (hF.sub (l := [rowI 24 1 Aw nW cw (u64s (mkW ws pre Sref)), rowI 3 1 Ao no co (ints (plcs pre R)), rowI 24 1 Ar j cr (u64s rs)]) (by simp))
      clear hS hS' b1 b4 o1 o4 z4 hF HW HE HST HNO
      go_wp2_with fail
      go_region
      all_goals
        go_wp2_with fail
        refine bodyPost_ret (v := .tuple #[.agg #[.slice Aw nW cw, .slice Ar j cr], .slice Ao no co, .int .i64 0]) (by simp [results, Try.results43, go_sem, z1]) rfl ⟨_, _, _, _, _, _, _, rfl, ?_⟩
        first
          | exact HF.out.perm (perm_v3 _ _ _)
          | exact HF.out.drew.perm (perm_v3 _ _ _)
          | trace_state
end Go.Proofs.Ytpbafmdebflbpaa

namespace Go.Proofs.Ytpbafmdebflbpaa
open Go.RowKit

theorem OrdOk.snoc {n : Nat} {l : List Int} (h : OrdOk n l) {x : Int} (hx : x ∉ l) (h0 : 0 ≤ x ∧ x < (n : Int)) : OrdOk n (l ++ [x]) := by
  have := h.seen1 (v := (true, x)) (fun _ => h0)
  rw [seen1_yes l x hx] at this
  exact this
theorem walkN_push' {gs : List (List Val)} (hg : ∀ fs ∈ gs, ValsOk gs.length fs) {l : List Int} {x : Int} {vs : List Val} (hv : ValsOk gs.length ((true, x) :: vs)) (h : x ∉ l) : walkN gs [(true, x) :: vs] l = walkN gs [vs] (walkN gs [fieldsI gs x] (l ++ [x])) := by
  have hK : KOk gs.length [(true, x) :: vs] := fun us hu => by simp at hu; subst hu; exact hv
  rw [walkN_push hg hK ⟨rfl, h⟩]
  exact walkN_app hg _ [fieldsI gs x] [vs] _ (Nat.le_refl _) (hK.push hg)

/-- What the walk's contract says when at most n objects are left. -/
def WalkC (F0 : Nat → Prop) (AO AR : Option Addr) (nO cO nR cR : Nat) (obs : List Ob) (gs : List (List Val)) (n : Nat) : Prop :=
  ∀ (w : World) (A Al : Option Addr) (nv cv nl cl : Nat) (vs : List Val) (l : List Int),
    ObsRd w F0 AO nO obs → Rd w F0 2 A nv (vals vs) → nv ≤ 1000 → ValsOk gs.length vs → (rowI 3 1 Al nl cl (ints l)).P w → nl = l.length → (∀ g, (rowI 3 1 Al nl cl (ints l)).fp g → ¬ F0 g) → (∀ g, F0 g → g < w.heap.size) → OrdOk gs.length l → gs.length ≤ n + l.length →
    Calls Try.prog 87 #[.agg #[.slice AO nO cO, .slice AR nR cR], .slice A nv cv, .slice Al nl cl] w fun e w' => ∃ A' n' c', e = .returned (.slice A' n' c') ∧ n' = (walkN gs [vs] l).length ∧ Sep (rowI 3 1 Al nl cl (ints l)).fp w w' [rowI 3 1 A' n' c' (ints (walkN gs [vs] l))]

set_option maxRecDepth 100000 in
set_option maxHeartbeats 16000000 in
theorem refWalk_step (F0 : Nat → Prop) (AO AR : Option Addr) (nO cO nR cR : Nat) (obs : List Ob) (gs : List (List Val)) (h3 : obs.map Ob.fields = gs) (hg : ∀ fs ∈ gs, ValsOk gs.length fs) (hf : ∀ fs ∈ gs, fs.length ≤ 1000) (hn : gs.length ≤ 1000) (n : Nat) (ih : ∀ m, n = m + 1 → WalkC F0 AO AR nO cO nR cR obs gs m) : WalkC F0 AO AR nO cO nR cR obs gs n := by
  intro w A Al nv cv nl cl vs l hO hV hnv hvs hP hnl hD hF hOK hle
  obtain ⟨F, hFF⟩ : ∃ F, (rowI 3 1 Al nl cl (ints l)).fp = F := ⟨_, rfl⟩
  have hS0 := (Sep.start hP).blk 52 #[.slice AO nO cO, .slice AR nR cR]
  rw [hFF] at hS0 hD ⊢
  have HOL := hide hO.len
  have HGL := hide (show gs.length = nO by rw [← h3, List.length_map]; exact hO.len)
  have HVL := hide (show vs.length = nv by have := hV.1; rw [vals_length] at this; omega)
  have HS0 := hide hS0
  have H3 := hide h3
  have HG := hide hg
  have HF0 := hide hf
  have HN := hide hn
  have HVS := hide hvs
  have HOO := hide hO
  have HVV := hide hV
  have HDD := hide hD
  have HFF := hide hF
  have HLE := hide hle
  have HIH := hide ih
  have HOK := hide hOK
  have HNL := hide hnl
  clear hFF hP h3 hg hf hn hvs hO hV hD hF hle ih hS0 hOK hnl
  go_enter Try.func87, Try.ntmps87
  go_wp2_with fail
  go_loopw [2, 11] (fun s2 i wr => ∃ (k : Nat) (A' : Option Addr) (n' c' : Nat) (l' : List Int), k ≤ nv ∧ i = .int .i64 k ∧ s2 = .slice A' n' c' ∧ Hid (n' = l'.length) ∧ Hid (walkN gs [vs.drop k] l' = walkN gs [vs] l) ∧ Hid (OrdOk gs.length l') ∧ Hid (l.length ≤ l'.length) ∧ Sep F w wr [rowI 3 1 A' n' c' (ints l'), blkI w.heap.size 52 #[.slice AO nO cO, .slice AR nR cR]]) (fun _ i _ => nv - (intOf i).toNat)
  case atStart => exact ⟨0, Al, nl, cl, l, by omega, rfl, rfl, HNL, by rw [List.drop_zero]; rfl, HOK, Nat.le_refl _, HS0.out⟩
  case round =>
    clear HS0 HOK HNL
    obtain ⟨k, A', n', c', l', hk, rfl, rfl, HNL, HW, HOK, HLL, hS⟩ := hrel
    by_cases hlt : k < nv
    · have hkl : k < vs.length := by rw [HVL.out]; exact hlt
      obtain ⟨ad, hA, _, had, hc, hd⟩ := (HVV.out.chg hS.bel HDD.out).atN hlt
      obtain ⟨v0, v1⟩ := vals_at vs k hkl
      have e0 := hc _ v0
      have e1 := hd 0 _ v1
      have HT := hide (List.drop_eq_getElem_cons hkl)
      have hvk := HVS.out _ (List.getElem_mem hkl)
      have hvd : ValsOk gs.length (vs.drop k) := fun v hv => HVS.out v (List.mem_of_mem_drop hv)
      obtain ⟨x, hx⟩ : ∃ x, vs[k] = x := ⟨_, rfl⟩
      rw [hx] at e0 e1 HT hvk
      rw [hA]
      have HA := hide hA
      clear hc hd v0 v1 hx hA
      obtain ⟨b, y⟩ := x
      dsimp only at e0 e1 hvk
      have hKd : KOk gs.length [vs.drop k] := fun us hu => by simp at hu; subst hu; exact hvd
      rw [HT.out] at hvd hKd
      have hS1 := hS.blkAt 32 #[.bool b, .int .i64 y] rfl
      cases b with
      | false =>
        have HW2 := hide (show walkN gs [vs.drop (k + 1)] l' = walkN gs [vs] l from by rw [← HW.out, HT.out, walkN_skip HG.out hKd (by simp)])
        have HS := hide (hS1.sub (l := [rowI 3 1 A' n' c' (ints l'), blkI w.heap.size 52 #[.slice AO nO cO, .slice AR nR cR]]) (by simp))
        clear hS hS1 hvd hKd hvk
        go_wp2_with fail
        go_roundw
        case rel => exact ⟨k + 1, A', n', c', l', by omega, by go_num, rfl, HNL, HW2, HOK, HLL, HS.out⟩
        case measure => simp [intOf]; omega
      | true =>
        have hll := HOK.out.len
        have hn' : n' ≤ 1000 := by have := HNL.out; have := HN.out; omega
        have C := has_any _ (fun _ => True) A' n' c' l' y (by omega) (hS1.rd_ 0 rfl)
        obtain ⟨j1, j2, j3, j4⟩ := hS1.rules 2 (g := wr.heap.size) (t := 32) rfl
        have j5 := j1 1
        by_cases hy : y ∈ l'
        · have HW2 := hide (show walkN gs [vs.drop (k + 1)] l' = walkN gs [vs] l from by rw [← HW.out, HT.out, walkN_skip HG.out hKd (by simp [hy])])
          rw [show decide (y ∈ l') = true from by simp [hy]] at C
          have HC := hide C
          have HS := hide (hS1.sub (l := [rowI 3 1 A' n' c' (ints l'), blkI w.heap.size 52 #[.slice AO nO cO, .slice AR nR cR]]) (by simp))
          clear hS hS1 hvd hKd hvk C hy j1 j4 hll
          go_wp2_with fail
          refine HC.out.mono ?_
          rintro e w5 ⟨rfl, rfl⟩
          go_wp2_with fail
          go_roundw
          case rel => exact ⟨k + 1, A', n', c', l', by omega, by go_num, rfl, HNL, HW2, HOK, HLL, HS.out⟩
          case measure => simp [intOf]; omega
        · obtain ⟨r1, r2⟩ := hvk rfl
          have HW2 := hide (show walkN gs [vs.drop (k + 1)] (walkN gs [fieldsI gs y] (l' ++ [y])) = walkN gs [vs] l from by rw [← HW.out, HT.out, walkN_push' HG.out hvd hy])
          rw [show decide (y ∈ l') = false from by simp [hy]] at C
          have hOK2 := HOK.out.snoc hy ⟨r1, r2⟩
          have hlen2 := hOK2.len
          rw [List.length_append, List.length_singleton] at hlen2
          obtain ⟨m, hm⟩ : ∃ m, n = m + 1 := ⟨n - 1, by have := HLE.out; have := HLL.out; omega⟩
          have hIH := HIH.out m hm
          obtain ⟨z, hz⟩ := int_nat r1
          rw [hz] at r2
          have hzn : z < nO := by have := HGL.out; omega
          have hzl : z < obs.length := by rw [HOL.out]; exact hzn
          have hEach := HOO.out.each _ (List.getElem_mem hzl)
          have hFl := HOO.out.flen (List.getElem_mem hzl)
          have hfi : fieldsI gs y = obs[z].fields := by
            unfold fieldsI
            rw [hz, ← H3.out, List.getD_eq_getElem?_getD]
            simp [List.getElem?_eq_getElem hzl]
          have hfm : obs[z].fields ∈ gs := by rw [← H3.out]; exact List.mem_map.2 ⟨_, List.getElem_mem hzl, rfl⟩
          have hfb := HF0.out _ hfm
          have hfv := HG.out _ hfm
          rw [hfi] at HW2
          obtain ⟨ad2, hA2, _, had2, hc2⟩ := (HOO.out.chg hS1.bel HDD.out).row.at_ hzn
          have q1 := hc2 obs[z].val (by simp [List.getElem?_eq_getElem hzl])
          have HROW := hide (fun w' (hc : Chg F w w') => ((HOO.out.chg hc HDD.out).row.at_ hzn))
          have HVAL := hide (show (obs.map Ob.val)[z]? = some obs[z].val by simp [List.getElem?_eq_getElem hzl])
          obtain ⟨o, ho⟩ : ∃ o, obs[z] = o := ⟨_, rfl⟩
          rw [ho] at q1 hEach hFl hfb hfv HW2 HVAL
          have HC := hide C
          have HOK2 := hide hOK2
          have HS1 := hide hS1
          have HIH2 := hide hIH
          have HFL := hide hFl
          have HFV := hide hfv
          have HFB := hide hfb
          have HEACH := hide hEach
          have HL2 := hide (show gs.length ≤ m + (l' ++ [y]).length from by rw [List.length_append, List.length_singleton]; have := HLE.out; have := HLL.out; omega)
          clear hS hS1 hvd hKd hvk C hy j1 j4 hll hOK2 hlen2 hIH hEach hFl hfi hfm hfb hfv ho hc2 q1 had2 hm r1 r2
          subst hz
          go_wp2_with fail
          refine HC.out.mono ?_
          rintro e w5 ⟨rfl, rfl⟩
          clear HC
          go_wp2_with (first
            | (at_builtin
               refine wpList_app1 (cs := #[.int .i64 (z : Int)]) rfl (.tmp 24) (.tmp 27) 40 rfl sInt HS1.out 0 (n := n') rfl rfl rfl (by simp) rfl rfl (by omega) ?_
               intro A4 c4 w4 hS4 hC4))
          clear j2 j3 j5 e0 e1 had
          have hS4' : Sep F w w4 [rowI 3 1 A4 (n' + 1) c4 (ints (l' ++ [(z : Int)])), blkI w.heap.size 52 #[.slice AO nO cO, .slice AR nR cR], blkI wr.heap.size 32 #[.bool true, .int .i64 z]] := by
            rw [ints_snoc_]; exact hS4
          obtain ⟨g1, g2, g3, g4⟩ := hS4'.rules 1 (g := w.heap.size) (t := 52) rfl
          have g5 := g1 0
          have g6 := g1 1
          obtain ⟨j1, j2, j3, j4⟩ := hS4'.rules 2 (g := wr.heap.size) (t := 32) rfl
          have j5 := j1 1
          obtain ⟨ad3, hA3, _, had3, hc3⟩ := HROW.out w4 hS4'.bel
          have q1 := hc3 o.val HVAL.out
          rw [hA3] at hA2
          cases hA2
          subst hA3
          unfold Ob.val at q1
          have i0 : (0 : Int) ≤ z := by omega
          have HS4 := hide hS4'
          have C := hide (fun nd => HIH2.out (w4.drewN nd) o.A A4 o.n o.c (n' + 1) c4 o.fields (l' ++ [(z : Int)]) ((HOO.out.chg (hS4'.drewN nd).bel HDD.out)) ((HEACH.out.chg (hS4'.drewN nd).bel HDD.out)) (by have := HFL.out; have := HFB.out; omega) HFV.out ((hS4'.drewN nd).get 0 rfl) (by rw [List.length_append, List.length_singleton, ← HNL.out]) (fun g hg hd => by
            rcases hS4'.lo 0 rfl g hg with h | h
            · exact HDD.out g h hd
            · have := HFF.out g hd; omega) (fun g hg => by have := HFF.out g hg; have := hS4'.bel.size; simpa using (by omega : g < w4.heap.size)) HOK2.out HL2.out)
          clear hS4 hS4' hC4 hc3 g1 g4 j1 j4 HS1 HIH2
          go_wp2_with fail
          have hmx : Try.prog.follows .mixedOrders = true := by kernel_rfl
          go_still_tail 9, hmx
          go_wp2_with fail
          refine (C.out 1).mono ?_
          rintro e w6 ⟨A6, n6, c6, rfl, hn6, hP6⟩
          have hS7 := (HS4.out.drewN 1).call 0 rfl hP6
          obtain ⟨p1, p2⟩ := walkN_pre HG.out _ [o.fields] (l' ++ [(z : Int)]) (Nat.le_refl _) (fun us hu => by simp at hu; subst hu; exact HFV.out) HOK2.out
          have HP1 := hide (show l.length ≤ (walkN gs [o.fields] (l' ++ [(z : Int)])).length from by have := p1.length_le; rw [List.length_append] at this; have := HLL.out; omega)
          have HP2 := hide p2
          have HN6 := hide hn6
          have HS7 := hide (hS7.sub (l := [rowI 3 1 A6 n6 c6 (ints (walkN gs [o.fields] (l' ++ [(z : Int)]))), blkI w.heap.size 52 #[.slice (some ad2) nO cO, .slice AR nR cR]]) (by simp))
          clear p1 p2 hP6 hS7 hn6
          go_wp2_with fail
          go_roundw
          case rel => exact ⟨k + 1, A6, n6, c6, walkN gs [o.fields] (l' ++ [(z : Int)]), by omega, by go_num, rfl, HN6, HW2, HP2, HP1, HS7.out⟩
          case measure => simp [intOf]; omega
    · obtain rfl : k = nv := by omega
      have HE := hide (show l' = walkN gs [vs] l from by rw [← HW.out, List.drop_of_length_le (by rw [HVL.out]; omega), walkN_pop, walkN_nil])
      have HS := hide (hS.sub (l := [rowI 3 1 A' n' c' (ints l')]) (by simp))
      clear hS
      go_wp2_with fail
      go_ret
      exact ⟨A', n', c', rfl, by rw [← HE.out]; exact HNL.out, by rw [← HE.out]; exact HS.out⟩
theorem refWalk_any (F0 : Nat → Prop) (AO AR : Option Addr) (nO cO nR cR : Nat) (obs : List Ob) (gs : List (List Val)) (h3 : obs.map Ob.fields = gs) (hg : ∀ fs ∈ gs, ValsOk gs.length fs) (hf : ∀ fs ∈ gs, fs.length ≤ 1000) (hn : gs.length ≤ 1000) (n : Nat) : WalkC F0 AO AR nO cO nR cR obs gs n := by
  induction n with
  | zero => exact refWalk_step F0 AO AR nO cO nR cR obs gs h3 hg hf hn 0 (fun m h => by omega)
  | succ n ih =>
    refine refWalk_step F0 AO AR nO cO nR cR obs gs h3 hg hf hn (n + 1) (fun m h => ?_)
    have e : m = n := (by omega)
    subst e
    exact ih
end Go.Proofs.Ytpbafmdebflbpaa

namespace Go.Proofs.Ytpbafmdebflbpaa
open Go.RowKit

set_option maxRecDepth 100000 in
set_option maxHeartbeats 16000000 in
theorem refVisit_any (w : World) (AW AR : Option Addr) (nW cW nR cR : Nat) (ws rs : List Int) (hW : WsIn w AW nW cW ws) (hR : WsIn w AR nR cR rs) (hz : acheck nW nR ws rs = 0) :
    Calls Try.prog 45 #[.agg #[.slice AW nW cW, .slice AR nR cR]] w fun e w' => ∃ A n c, e = .returned (.slice A n c) ∧
      Sep No w w' [rowI 3 1 A n c (ints (plcs (parse nW ws 0).1 (walkN (graphOf ws (parse nW ws 0).1) [rs.map (turnW (ixOf (parse nW ws 0).1))] [])))] := by
  obtain ⟨h1, h2, h3, h4⟩ := acheck_zero hz
  have hok : ArnOk nW ws := ⟨hW.len, h1, fun x hx => (hW.wf x hx).1, h3⟩
  have hgood := good_arn hW hR hz
  have hgf : ∀ x ∈ fieldsOf ws (parse nW ws 0).1, GoodW (parse nW ws 0).1 x := fun x hx => hgood x (List.mem_append_right _ hx)
  have hgr : ∀ x ∈ rs, GoodW (parse nW ws 0).1 x := fun x hx => hgood x (List.mem_append_left _ hx)
  have hvg := graph_ok hgf
  have hvr : ValsOk (graphOf ws (parse nW ws 0).1).length (rs.map (turnW (ixOf (parse nW ws 0).1))) := by rw [graph_len]; exact good_vals hgr
  have hgl := graph_len (nW := nW) (ws := ws)
  have hpl := pre_len hok
  have hfl : ∀ fs ∈ graphOf ws (parse nW ws 0).1, fs.length ≤ 1000 := fun fs hfs => by
    obtain ⟨p, hp, rfl⟩ := List.mem_map.1 hfs
    have h5 := parse_mem nW ws 0 p hok.pos hp
    have h6 := h5.2.1.1
    rw [h5.2.2.1] at h6
    unfold fieldsAt
    rw [List.length_map, List.length_take]
    omega
  have HG := good_of_check h4
  have HRISE := hide (places_rise nW ws)
  have hrl := hR.len
  have hS0 := ((Sep.nil No w).blkAt 55 #[.slice AW nW cW, .slice AR nR cR] rfl)
  obtain ⟨a1, a2, a3, a4⟩ := hS0.rules 0 (g := w.heap.size) (t := 55) rfl
  have a5 := a1 0
  have HS0 := hide hS0
  have C0 := hide (refStarts_any _ AW nW cW ws (hW.below hS0.below_) h1)
  rw [show startsOf nW ws = placesOf (parse nW ws 0).1 from if_pos h3] at C0
  rw [h3] at C0
  have C1 := hide (fun w' (hb : Below w.heap.size w w') => refRead_any w' AW AR nW cW nR cR ws rs (hW.below hb) (hR.below hb) hz)
  have C3 := hide (fun w' As cs (hb : Below w.heap.size w w') (hs : Rd w' (fun _ => True) 1 As (parse nW ws 0).1.length (ints (placesOf (parse nW ws 0).1))) => unpacked_any w' AR As nR cR (parse nW ws 0).1.length cs rs (placesOf (parse nW ws 0).1) (ixOf (parse nW ws 0).1) (by omega) (by omega) ((hR.below hb).rd) hR.wf (fun x hx => HG.e x (List.mem_append_left _ hx)) hs
    (fun i j a b h1 h2 h3 => HRISE.out i j a b h1 h2 h3) (fun x hx hr => HG.ix x (List.mem_append_left _ hx) hr))
  have hvl : (rs.map (turnW (ixOf (parse nW ws 0).1))).length = nR := by rw [List.length_map]; exact hrl
  have hK : KOk (graphOf ws (parse nW ws 0).1).length [rs.map (turnW (ixOf (parse nW ws 0).1))] := fun us hu => by simp at hu; subst hu; simpa using hvr
  have hRO := (walkN_pre hvg _ [rs.map (turnW (ixOf (parse nW ws 0).1))] [] (Nat.le_refl _) hK (OrdOk.nil _)).2
  rw [hgl] at hRO
  obtain ⟨pre, hpre⟩ : ∃ pre, (parse nW ws 0).1 = pre := ⟨_, rfl⟩
  rw [hpre] at C0 C1 C3 hvg hvr hgl hpl hfl hvl hRO ⊢
  obtain ⟨gs, hgs⟩ : ∃ gs, graphOf ws pre = gs := ⟨_, rfl⟩
  simp only [hgs] at C1 hvg hvr hgl hfl hRO ⊢
  obtain ⟨vs, hvs⟩ : ∃ vs, rs.map (turnW (ixOf pre)) = vs := ⟨_, rfl⟩
  simp only [hvs] at C1 C3 hvr hvl hRO ⊢
  have CW := hide (fun (w' : World) AO AR2 nO cO nR2 cR2 obs (h3 : obs.map Ob.fields = gs) A cv (hO : ObsRd w' (fun _ => True) AO nO obs) (hV : Rd w' (fun _ => True) 2 A nR (vals vs)) => refWalk_any (fun g => g < w'.heap.size) AO AR2 nO cO nR2 cR2 obs gs h3 hvg hfl (by omega) gs.length w' A none nR cv 0 0 vs [] (hO.more (fun k hk _ => hk)) (hV.more (fun k hk _ => hk)) (by omega) hvr (rowI_nil_P w' 3 1) rfl (fun g hg => by simp [rowI, Value.ownBlock] at hg) (fun g hg => hg) (OrdOk.nil _) (by simp))
  obtain ⟨R, hRw⟩ : ∃ R, walkN gs [vs] [] = R := ⟨_, rfl⟩
  simp only [hRw] at CW hRO ⊢
  have HRO := hide hRO
  have HPRE := hide hpl
  have HGS := hide (show gs.length ≤ 256 by omega)
  clear hS0 hz h3 h4 hok hgood hgf hgr hpre hgs hvs hRw hvg hvr hfl hvl hK hRO HG HRISE hrl hW hR a1 a4
  go_enter Try.func45, Try.ntmps45
  go_wp2_with fail
  refine C0.out.mono ?_
  rintro e w1 ⟨As, ns, cs, rfl, hns, hP⟩
  have hnl : ns = pre.length := by have := (hP.rd_ 0 rfl).1; simp [ints, placesOf] at this; omega
  subst hnl
  have hS2 := HS0.out.snocNew hP.below_ _ (hP.get 0 rfl) (fun g hg => (hP.lo 0 rfl g hg).resolve_left (fun h => h))
  have HS2 := hide hS2
  clear a2 a3 a5 hP HS0 C0
  obtain ⟨a1, a2, a3, a4⟩ := hS2.rules 0 (g := w.heap.size) (t := 55) rfl
  have a5 : w1.cell? ⟨w.heap.size, 0, none⟩ = some (.slice AW nW cW) := by rw [a1]; rfl
  have a6 : w1.cell? ⟨w.heap.size, 1, none⟩ = some (.slice AR nR cR) := by rw [a1]; rfl
  clear hS2 a1 a4
  go_wp2_with fail
  go_cut [20, 21, 22] from 14 (fun s20 s21 s22 wc => ∃ (A : Option Addr) (n c : Nat), s20 = .slice A n c ∧ s21 = .int .i64 n ∧ s22 = .int .i64 0 ∧ Hid (n = R.length) ∧ Sep No w wc [rowI 3 1 A n c (ints R), rowI 3 1 As pre.length cs (ints (placesOf pre))])
  case first =>
    go_region_law (first
      | (try go_simp
         go_at_call 42
         first
           | with_reducible refine (C1.out _ HS2.out.drew.below_).mono ?_
             rintro e w4 ⟨v4, rfl, hb4, hG4⟩
             obtain ⟨AO, nO, cO, Ag, ng, cg, obs, rfl, g1, g2, g3⟩ := hG4.ex
             have hS4 := HS2.out.drew.below hb4
             obtain ⟨x1, x2, x3, x4⟩ := hS4.rules 0 (g := w.heap.size) (t := 55) rfl
             (have x5 : w4.cell? ⟨w.heap.size, 0, none⟩ = some (.slice AW nW cW) := by rw [x1]; rfl)
             (have x6 : w4.cell? ⟨w.heap.size, 1, none⟩ = some (.slice AR nR cR) := by rw [x1]; rfl)
             (have G1 := hide (g1.more (D' := fun _ => True) (fun _ _ _ => trivial)))
             (have G2 := hide g2)
             clear x1 x4 hG4 hb4 g1 g2 g3
           | with_reducible refine (C1.out _ hS5.below_).mono ?_
             rintro e w4 ⟨v4, rfl, hb4, hG4⟩
             obtain ⟨AO, nO, cO, Ag, ng, cg, obs, rfl, g1, g2, g3⟩ := hG4.ex
             have HS6 := hide (hS5.below hb4)
             (have G1 := hide (g1.more (D' := fun _ => True) (fun _ _ _ => trivial)))
             (have G2 := hide g2)
             clear hG4 hb4 g1 g2 g3)
      | (try go_simp
         go_at_call 81
         first
           | with_reducible refine (C3.out _ _ _ hS4.below_ (hS4.rd_ 1 rfl)).mono ?_
             rintro e w5 ⟨Ax, cx, rfl, hP5⟩
             have HS6 := hide (hS4.snocNew hP5.below_ _ (hP5.get 0 rfl) (fun g hg => (hP5.lo 0 rfl g hg).resolve_left (fun h => h)))
             (have G1 := hide (G1.out.below hP5.below_))
             clear hP5 hS4
           | with_reducible refine (C3.out _ _ _ HS2.out.drew.below_ (HS2.out.drew.rd_ 1 rfl)).mono ?_
             rintro e w5 ⟨Ax, cx, rfl, hP5⟩
             have hS5 := HS2.out.drew.snocNew hP5.below_ _ (hP5.get 0 rfl) (fun g hg => (hP5.lo 0 rfl g hg).resolve_left (fun h => h))
             obtain ⟨x1, x2, x3, x4⟩ := hS5.rules 0 (g := w.heap.size) (t := 55) rfl
             (have x5 : w5.cell? ⟨w.heap.size, 0, none⟩ = some (.slice AW nW cW) := by rw [x1]; rfl)
             (have x6 : w5.cell? ⟨w.heap.size, 1, none⟩ = some (.slice AR nR cR) := by rw [x1]; rfl)
             clear hP5 x1 x4)
      | (try go_simp
         go_at_call 87
         refine (CW.out _ AO Ag nO cO ng cg obs G2.out Ax cx G1.out (HS6.out.rd_ 2 rfl)).mono ?_
         rintro e w7 ⟨A7, n7, c7, rfl, hn7, hP7⟩
         have HN7 := hide hn7
         have HS7 := hide ((HS6.out.nilRow0 3 1).call 0 rfl hP7)
         clear hP7 hn7))
    all_goals
      go_wp2_with fail
      go_meet
      case rel =>
        first
          | exact ⟨_, _, _, rfl, rfl, rfl, HN7, HS7.out.sub (by simp)⟩
          | exact ⟨_, _, _, rfl, rfl, rfl, HN7, (HS7.out.sub (by simp)).drew⟩
          | exact ⟨_, _, _, rfl, rfl, rfl, HN7, (HS7.out.sub (by simp)).drewN _⟩
          | trace_state
  case rest =>
    obtain ⟨A, n, c, rfl, rfl, rfl, HN, hS⟩ := hcut
    have hnR : n ≤ 256 := by have := HRO.out.len; have := HN.out; omega
    have HS := hide (hS.nilRow0 3 1)
    clear hS C1 C3 CW HS2 a2 a3 a5 a6
    go_wp2_with fail
    go_loopw [5, 22] (fun s5 i wr => ∃ (k : Nat) (A' : Option Addr) (c' : Nat), k ≤ n ∧ i = .int .i64 k ∧ s5 = .slice A' k c' ∧ Sep No w wr [rowI 3 1 A' k c' (ints (plcs pre (R.take k))), rowI 3 1 A n c (ints R), rowI 3 1 As pre.length cs (ints (placesOf pre))]) (fun _ i _ => n - (intOf i).toNat)
    case atStart => exact ⟨0, none, 0, by omega, rfl, rfl, HS.out⟩
    case round =>
      clear HS
      obtain ⟨k, A', c', hk, rfl, rfl, hS⟩ := hrel
      by_cases hlt : k < n
      · have hkl : k < R.length := by have := HN.out; omega
        obtain ⟨ad, hA, _, had, hc⟩ := (hS.rd_ 1 rfl).at_ hlt
        have e0 := hc (.int .i64 R[k]) (by simp [ints, List.getElem?_eq_getElem hkl])
        have hrg := HRO.out.rng _ (List.getElem_mem hkl)
        have HT := hide (show plcs pre (R.take (k + 1)) = plcs pre (R.take k) ++ [(plcN pre R[k].toNat : Int)] from by unfold plcs; rw [List.take_succ_eq_append_getElem hkl, List.map_append]; rfl)
        obtain ⟨x, hx⟩ : ∃ x, R[k] = x := ⟨_, rfl⟩
        rw [hx] at e0 hrg HT
        obtain ⟨z, hz⟩ := int_nat hrg.1
        have hzn : z < pre.length := by omega
        obtain ⟨ad2, hA2, _, had2, hc2⟩ := (hS.rd_ 2 rfl).at_ hzn
        have e1 := hc2 (.int .i64 (plcN pre z)) (by rw [← plc_get hzn]; simp [placesOf, List.getElem?_eq_getElem hzn])
        have HS := hide hS
        rw [hA]
        rw [hA2]
        have HA := hide hA
        have HA2 := hide hA2
        subst hz
        have HT2 := hide (show plcs pre (R.take (k + 1)) = plcs pre (R.take k) ++ [(plcN pre z : Int)] from HT.out)
        have i0 : (0 : Int) ≤ (z : Int) := by omega
        clear hc hc2 hx hS hA hA2 hrg HT
        go_wp2_with (first
          | (at_builtin
             refine wpList_app1 (cs := #[.int .i64 (plcN pre z)]) rfl (.tmp 26) (.tmp 31) 40 rfl sInt HS.out 0 (n := k) rfl rfl rfl (by simp) rfl rfl (by omega) ?_
             intro A4 c4 w4 hS4 hC4))
        go_roundw
        case rel => exact ⟨k + 1, A4, c4, by omega, by go_num, rfl, by rw [HT2.out, ints_snoc_, ← HA.out, ← HA2.out]; exact hS4⟩
        case measure => simp [intOf]; omega
      · obtain rfl : k = n := by omega
        have HE := hide (show R.take k = R from List.take_of_length_le (by have := HN.out; omega))
        have HS := hide hS
        clear hS
        go_wp2_with fail
        go_ret
        have h9 := HS.out
        rw [HE.out] at h9
        exact ⟨A', k, c', rfl, h9.sub (by simp)⟩
end Go.Proofs.Ytpbafmdebflbpaa
