/- Marks: the reference's marked arena; the plain part. Marks: the reference's Mark. Marks: mark.Mark. -/
import Derived.Test.YtpbafmdebflbpaaMg17
import Derived.Test.YtpbafmdebflbpaaMg16
import Derived.Test.YtpbafmdebflbpaaMg11
import Derived.Test.YtpbafmdebflbpaaMg20
namespace Go.Proofs.Ytpbafmdebflbpaa
open Go.RowKit

/-- Headers with given marks. -/
def hdM (ws : List Int) (pre : List (Nat × Nat)) (S : Nat → Bool) (i : Nat) : Hd := ((lenN pre i : Int), S i, ageN ws pre i)
def headsM (ws : List Int) (pre : List (Nat × Nat)) (S : Nat → Bool) : List Hd := (List.range pre.length).map (hdM ws pre S)
theorem headsM_len (ws : List Int) (pre : List (Nat × Nat)) (S : Nat → Bool) : (headsM ws pre S).length = pre.length := by simp [headsM]
theorem headsM_self {nW : Nat} {ws : List Int} (h : ArnOk nW ws) : headsL ws (parse nW ws 0).1 = headsM ws (parse nW ws 0).1 (fun i => hMark (ws.getD (plcN (parse nW ws 0).1 i) 0)) := by
  refine List.ext_getElem (by simp [headsL, headsM]) fun k h1 h2 => ?_
  have hk : k < (parse nW ws 0).1.length := by simpa [headsL] using h1
  obtain ⟨_, _, h6, _⟩ := h.obj hk
  have e : plcN (parse nW ws 0).1 k = ((parse nW ws 0).1[k]).1 := by unfold plcN; rw [List.getD_eq_getElem?_getD, List.getElem?_eq_getElem hk]; rfl
  simp only [headsL, headsM, List.getElem_map, List.getElem_range, hdM, headOf, ageN]
  rw [e] at h6 ⊢
  rw [h6]
theorem pack_self {nW : Nat} {ws : List Int} {x : Int} (at_ : List Int) (_h : ArnOk nW ws) (hx : GoodW (parse nW ws 0).1 x) (hat : ∀ k, k < (parse nW ws 0).1.length → at_[k]? = some (plcN (parse nW ws 0).1 k : Int)) : packV at_ (turnW (ixOf (parse nW ws 0).1) x) = x := by
  unfold packV turnW
  cases hr : unR x with
  | false =>
    simp only [Bool.false_eq_true, if_false]
    have hn := hx.num hr
    have ha : unA x = unN x := by unfold unA; rw [if_pos hn]
    rw [ha]
    exact unN_pack x hx.lo hx.hi hn
  | true =>
    obtain ⟨r1, r2, r3, r4, r5⟩ := hx.ref hr
    have r4' : (plcN (parse nW ws 0).1 (ixOf (parse nW ws 0).1 (unA x)) : Int) = x / 2 := by rw [← r4]; unfold plcN plc; simp
    simp only [if_true]
    rw [show ((ixOf (parse nW ws 0).1 (unA x) : Nat) : Int).toNat = ixOf (parse nW ws 0).1 (unA x) from by omega, List.getD_eq_getElem?_getD, hat _ r5]
    unfold packA
    rw [if_pos rfl, Option.getD_some, r4', if_pos (by have := hx.lo; omega)]
    omega
theorem graph_at {nW : Nat} {ws : List Int} (h : ArnOk nW ws) (k : Nat) (hk : k < (parse nW ws 0).1.length) : (atF (graphOf ws (parse nW ws 0).1))[k]? = some (plcN (parse nW ws 0).1 k : Int) := by
  have h1 := parse_at nW ws 0 k h.pos hk
  have e : plcN (parse nW ws 0).1 k = ((parse nW ws 0).1[k]).1 := by unfold plcN; rw [List.getD_eq_getElem?_getD, List.getElem?_eq_getElem hk]; rfl
  have hm := fun p hp => parse_mem nW ws 0 p h.pos hp
  have hl := h.len
  rw [e, h1]
  unfold atF
  rw [List.getElem?_map, List.getElem?_range (by unfold graphOf; rw [List.length_map]; exact hk)]
  simp only [Option.map_some]
  congr 1
  unfold graphOf
  rw [← List.map_take, List.map_map]
  have key : ∀ l : List (Nat × Nat), (∀ p ∈ l, p ∈ (parse nW ws 0).1) → (l.map ((fun f : List Val => (1 : Int) + (f.length : Int)) ∘ fun p => (fieldsAt ws p).map (turnW (ixOf (parse nW ws 0).1)))).sum = ((l.map fun p => 1 + p.2).sum : Nat) := by
    intro l hl2
    induction l with
    | nil => rfl
    | cons a l ih =>
      have ih := ih (fun p hp => hl2 p (by simp [hp]))
      obtain ⟨_, _, _, h4⟩ := hm a (hl2 a (by simp))
      have hf : (fieldsAt ws a).length = a.2 := by unfold fieldsAt; rw [List.length_take, List.length_drop]; omega
      simp only [List.map_cons, List.sum_cons, Function.comp, List.length_map, hf] at ih ⊢
      rw [ih]
      omega
  rw [key _ (fun p hp => List.mem_of_mem_take hp)]
  simp
/-- What the reference lays with given marks. -/
theorem lay_marks {nW : Nat} {ws : List Int} (h : ArnOk nW ws) (hgf : ∀ x ∈ fieldsOf ws (parse nW ws 0).1, GoodW (parse nW ws 0).1 x) (S : Nat → Bool) : layW (graphOf ws (parse nW ws 0).1) (headsM ws (parse nW ws 0).1 S) = mkW ws (parse nW ws 0).1 S := by
  have hat := graph_at h
  unfold layW
  generalize hA : atF (graphOf ws (parse nW ws 0).1) = A at *
  have hgr : graphOf ws (parse nW ws 0).1 = (List.range (parse nW ws 0).1.length).map fun i => (fldN ws (parse nW ws 0).1 i).map (turnW (ixOf (parse nW ws 0).1)) := by
    refine List.ext_getElem (by simp [graphOf]) fun k h1 h2 => ?_
    have hk : k < (parse nW ws 0).1.length := by simpa [graphOf] using h1
    have e : (parse nW ws 0).1.getD k (0, 0) = (parse nW ws 0).1[k] := by rw [List.getD_eq_getElem?_getD, List.getElem?_eq_getElem hk]; rfl
    simp only [graphOf, List.getElem_map, List.getElem_range, fldN, plcN, lenN, fieldsAt, e]
  rw [hgr]
  unfold headsM
  rw [zip_map_map, List.flatMap_map]
  unfold mkW
  refine flatMap_congr_ fun i hi => ?_
  have hi' : i < (parse nW ws 0).1.length := List.mem_range.1 hi
  dsimp only
  unfold mkB hdM
  congr 1
  rw [List.map_map]
  conv => rhs; rw [← List.map_id (fldN ws (parse nW ws 0).1 i)]
  refine List.map_congr_left fun x hx => ?_
  exact pack_self A h (hgf x (List.mem_flatMap.2 ⟨(parse nW ws 0).1[i], List.getElem_mem hi', by
    have e : (parse nW ws 0).1.getD i (0, 0) = (parse nW ws 0).1[i] := by rw [List.getD_eq_getElem?_getD, List.getElem?_eq_getElem hi']; rfl
    rw [← e]; exact hx⟩)) hat
theorem roots_self {nW : Nat} {ws rs : List Int} (h : ArnOk nW ws) (hgr : ∀ x ∈ rs, GoodW (parse nW ws 0).1 x) : (rs.map (turnW (ixOf (parse nW ws 0).1))).map (packV (atF (graphOf ws (parse nW ws 0).1))) = rs := by
  have hat := graph_at h
  rw [List.map_map]
  conv => rhs; rw [← List.map_id rs]
  exact List.map_congr_left fun x hx => pack_self _ h (hgr x hx) hat
theorem headsM_ok {nW : Nat} {ws : List Int} (h : ArnOk nW ws) (S : Nat → Bool) : ∀ z ∈ headsM ws (parse nW ws 0).1 S, HdOk z := by
  intro z hz
  obtain ⟨i, hi, rfl⟩ := List.mem_map.1 hz
  obtain ⟨_, _, _, _, h4, h5, h6⟩ := h.obj (List.mem_range.1 hi)
  unfold HdOk hdM
  dsimp only
  omega
end Go.Proofs.Ytpbafmdebflbpaa

namespace Go.Proofs.Ytpbafmdebflbpaa
open Go.RowKit

theorem hcells_set (b : Bool) : ∀ (l : List Hd) (k : Nat) (hk : k < l.length), (hcells l).set (k * 3 + 1) (.bool b) = hcells (l.set k (l[k].1, b, l[k].2.2))
  | [], k, h => by simp at h
  | a :: l, 0, h => by simp [hcells]
  | a :: l, k + 1, h => by
    have ih := hcells_set b l k (by simpa using h)
    have e1 : hcells (a :: l) = [.int .i64 a.1, .bool a.2.1, .int .i64 a.2.2] ++ hcells l := rfl
    rw [e1, List.set_append_right _ _ (by simp; omega)]
    rw [show (k + 1) * 3 + 1 - [Value.int .i64 a.1, .bool a.2.1, .int .i64 a.2.2].length = k * 3 + 1 from by simp; omega, ih]
    rfl
theorem headsM_set (ws : List Int) (pre : List (Nat × Nat)) (S : Nat → Bool) (k : Nat) (b : Bool) (hk : k < (headsM ws pre S).length) : (headsM ws pre S).set k ((headsM ws pre S)[k].1, b, (headsM ws pre S)[k].2.2) = headsM ws pre (addS S k b) := by
  refine List.ext_getElem (by simp [headsM]) fun i h1 h2 => ?_
  rw [List.getElem_set]
  split
  · rename_i e
    subst e
    simp [headsM, hdM, addS]
  · rename_i e
    simp [headsM, hdM, addS, Ne.symm e]
/-- The first k by the list. -/
def mixS (ws : List Int) (pre : List (Nat × Nat)) (L : List Int) (k : Nat) : Nat → Bool := fun i => if i < k then decide ((i : Int) ∈ L) else hMark (ws.getD (plcN pre i) 0)
theorem mixS_succ (ws : List Int) (pre : List (Nat × Nat)) (L : List Int) (k : Nat) : addS (mixS ws pre L k) k (decide ((k : Int) ∈ L)) = mixS ws pre L (k + 1) := by
  funext i
  unfold addS mixS
  by_cases h : i = k
  · subst h; simp
  · rw [if_neg h]
    by_cases h2 : i < k
    · rw [if_pos h2, if_pos (by omega)]
    · rw [if_neg h2, if_neg (by omega)]
theorem headsM_congr (ws : List Int) (pre : List (Nat × Nat)) {S T : Nat → Bool} (h : ∀ i, i < pre.length → S i = T i) : headsM ws pre S = headsM ws pre T := by
  unfold headsM
  refine List.map_congr_left fun i hi => ?_
  unfold hdM
  rw [h i (List.mem_range.1 hi)]

/-- The marks that the reference tells. -/
def refS (nW : Nat) (ws rs : List Int) : Nat → Bool := fun i => decide ((i : Int) ∈ reachR (graphOf ws (parse nW ws 0).1) (rs.map (turnW (ixOf (parse nW ws 0).1))))

set_option maxRecDepth 100000 in
set_option maxHeartbeats 16000000 in
theorem refMark_any (w : World) (AW AR : Option Addr) (nW cW nR cR : Nat) (ws rs : List Int) (hW : WsIn w AW nW cW ws) (hR : WsIn w AR nR cR rs) (hz : acheck nW nR ws rs = 0) :
    Calls Try.prog 44 #[.agg #[.slice AW nW cW, .slice AR nR cR]] w fun e w' => ∃ v, e = .returned v ∧ Below w.heap.size w w' ∧
      ArenaRd w w' v (mkW ws (parse nW ws 0).1 (refS nW ws rs)) rs := by
  obtain ⟨h1, h2, h3, h4⟩ := acheck_zero hz
  have hw0 : ∀ x ∈ ws, 0 ≤ x := fun x hx => (hW.wf x hx).1
  have hok : ArnOk nW ws := ⟨hW.len, h1, hw0, h3⟩
  have hG := good_of_check h4
  have hGW : ∀ x ∈ rs ++ fieldsOf ws (parse nW ws 0).1, GoodW (parse nW ws 0).1 x := fun x hx => by
    have hb : 0 ≤ x ∧ x ≤ 18446744073709551615 := by
      rcases List.mem_append.1 hx with h | h
      · exact hR.wf x h
      · obtain ⟨p, _, hp⟩ := List.mem_flatMap.1 h
        exact hW.wf x (List.mem_of_mem_drop (List.mem_of_mem_take hp))
    exact ⟨hb.1, hb.2, hG.e x hx, hG.ix x hx⟩
  have hgl : (graphOf ws (parse nW ws 0).1).length = (parse nW ws 0).1.length := by unfold graphOf; rw [List.length_map]
  have hvg : ∀ fs ∈ graphOf ws (parse nW ws 0).1, ValsOk (graphOf ws (parse nW ws 0).1).length fs := by
    rw [hgl]
    intro fs hfs
    obtain ⟨p, hp, rfl⟩ := List.mem_map.1 hfs
    exact good_vals fun x hx => hGW x (List.mem_append_right _ (List.mem_flatMap.2 ⟨p, hp, hx⟩))
  have hvr : ValsOk (graphOf ws (parse nW ws 0).1).length (rs.map (turnW (ixOf (parse nW ws 0).1))) := by rw [hgl]; exact good_vals fun x hx => hGW x (List.mem_append_left _ hx)
  have hfl : ∀ fs ∈ graphOf ws (parse nW ws 0).1, fs.length ≤ 4 := fun fs hfs => by
    obtain ⟨p, hp, rfl⟩ := List.mem_map.1 hfs
    have h5 := parse_mem nW ws 0 p hw0 hp
    have h6 := h5.2.1.1
    rw [h5.2.2.1] at h6
    unfold fieldsAt
    rw [List.length_map, List.length_take]
    omega
  have hpl : (parse nW ws 0).1.length ≤ 256 := by
    have h6 := parse_sum nW ws 0 (by omega) hw0
    have h7 : ∀ m : List (Nat × Nat), m.length ≤ (m.map fun p => 1 + p.2).sum := fun m => by
      induction m with
      | nil => simp
      | cons a m ih => simp only [List.map_cons, List.sum_cons, List.length_cons]; omega
    have h8 := h7 (parse nW ws 0).1
    have h9 := hW.len
    omega
  have hlay := lay_marks hok (fun x hx => hGW x (List.mem_append_right _ hx)) (refS nW ws rs)
  have hroots := roots_self hok (rs := rs) (fun x hx => hGW x (List.mem_append_left _ hx))
  have hHdOk := headsM_ok hok (refS nW ws rs)
  have hself := headsM_self hok
  have C1 := hide (fun w' (hb : Below w.heap.size w w') => refRead_any w' AW AR nW cW nR cR ws rs (hW.below hb) (hR.below hb) hz)
  have C2 := hide (fun w' (hb : Below w.heap.size w w') => heads_any w' AW AR nW cW nR cR ws (hW.below hb) h1 h3)
  have hrl : (rs.map (turnW (ixOf (parse nW ws 0).1))).length ≤ 8 := by rw [List.length_map, hR.len]; exact h2
  have C3 := hide (fun w' v (h : GraphRd w' (fun _ => True) v (graphOf ws (parse nW ws 0).1) (rs.map (turnW (ixOf (parse nW ws 0).1)))) => reach_any w' v _ _ h (by omega) (by omega) (fun fs hfs => by have := hfl fs hfs; omega))
  have C4 := hide (fun w' v AH nH cH (h : GraphRd w' (fun _ => True) v (graphOf ws (parse nW ws 0).1) (rs.map (turnW (ixOf (parse nW ws 0).1)))) (hH : Rd w' (fun _ => True) 3 AH nH (hcells (headsM ws (parse nW ws 0).1 (refS nW ws rs)))) =>
    refLayG_any w' v AH nH cH _ _ _ h (by rw [headsM_len, hgl]) hHdOk hH (by omega) hrl hfl hvg hvr)
  rw [hlay, hroots] at C4
  have hrk : (reachR (graphOf ws (parse nW ws 0).1) (rs.map (turnW (ixOf (parse nW ws 0).1)))).length ≤ 256 := by have := (reach_ok (gs := graphOf ws (parse nW ws 0).1) (vs := rs.map (turnW (ixOf (parse nW ws 0).1)))).len; omega
  have hmixE : headsM ws (parse nW ws 0).1 (mixS ws (parse nW ws 0).1 (reachR (graphOf ws (parse nW ws 0).1) (rs.map (turnW (ixOf (parse nW ws 0).1)))) (parse nW ws 0).1.length) = headsM ws (parse nW ws 0).1 (refS nW ws rs) :=
    headsM_congr _ _ fun i hi => by unfold mixS refS; rw [if_pos hi]
  have hmix0 : headsL ws (parse nW ws 0).1 = headsM ws (parse nW ws 0).1 (mixS ws (parse nW ws 0).1 (reachR (graphOf ws (parse nW ws 0).1) (rs.map (turnW (ixOf (parse nW ws 0).1)))) 0) := by
    rw [hself]; exact headsM_congr _ _ fun i hi => by unfold mixS; rw [if_neg (by omega)]
  rw [hmix0] at C2
  obtain ⟨S, hS⟩ : ∃ S, refS nW ws rs = S := ⟨_, rfl⟩
  rw [hS] at C4 hmixE ⊢
  obtain ⟨pre, hpre⟩ : ∃ pre, (parse nW ws 0).1 = pre := ⟨_, rfl⟩
  simp only [hpre] at C1 C2 C3 C4 hmixE hpl hrk ⊢
  obtain ⟨vs, hvs⟩ : ∃ vs, rs.map (turnW (ixOf pre)) = vs := ⟨_, rfl⟩
  simp only [hvs] at C1 C2 C3 C4 hmixE hrk ⊢
  obtain ⟨gs, hgs⟩ : ∃ gs, graphOf ws pre = gs := ⟨_, rfl⟩
  simp only [hgs] at C1 C2 C3 C4 hmixE hrk ⊢
  obtain ⟨L, hL⟩ : ∃ L, reachR gs vs = L := ⟨_, rfl⟩
  simp only [hL] at C2 C3 hmixE hrk ⊢
  have HME := hide hmixE
  have hB0 : Below w.heap.size w ((w.alloc (.cells #[.slice AW nW cW, .slice AR nR cR] 55)).alloc (.cells #[.slice none 0 0, .slice none 0 0] 55)) := ((Below.refl _ w).alloc (Nat.le_refl _) _).alloc (by simp) _
  have b1 := (Blk.new w 55 #[.slice AW nW cW, .slice AR nR cR]).alloc (.cells #[.slice none 0 0, .slice none 0 0] 55)
  have b2 := Blk.new (w.alloc (.cells #[.slice AW nW cW, .slice AR nR cR] 55)) 55 #[.slice none 0 0, .slice none 0 0]
  rw [World.size_alloc] at b2
  have HB := hide hB0
  have HA := hide b1
  have HR := hide b2
  clear hlay hroots hHdOk hself hmix0 hmixE hS hpre hvs hgs hL hB0 b1 b2 hok hG hGW hgl hvg hvr hfl hrl hz h1 h2 h3 h4 hw0
  go_enter Try.func44, Try.ntmps44
  go_wp2_with fail
  refine (C1.out _ HB.out).mono ?_
  rintro e w1 ⟨v, rfl, hb1, hG1⟩
  obtain ⟨AO, nO, cO, Ag, ng, cg, obs, rfl, g1, g2, g3⟩ := hG1.ex
  have hA1 := (HA.out.below_ hb1).alloc (.cells #[.slice AO nO cO, .slice Ag ng cg] 52)
  have hR1 := (HR.out.below_ hb1).alloc (.cells #[.slice AO nO cO, .slice Ag ng cg] 52)
  have hV1 := Blk.new w1 52 #[.slice AO nO cO, .slice Ag ng cg]
  have hB1 := HB.out.trans (hb1.mono HB.out.size)
  have hB1' := hB1.alloc hB1.size (.cells #[.slice AO nO cO, .slice Ag ng cg] 52)
  have hG1' : GraphRd (w1.alloc (.cells #[.slice AO nO cO, .slice Ag ng cg] 52)) (fun _ => True) (.agg #[.slice AO nO cO, .slice Ag ng cg]) gs vs := (GraphRd.more hG1 (fun _ _ _ => trivial)).below ((Below.refl _ w1).alloc (Nat.le_refl _) _)
  have hz1 : (w1.alloc (.cells #[.slice AO nO cO, .slice Ag ng cg] 52)).heap.size = w1.heap.size + 1 := by simp
  obtain ⟨v1, v2, v3⟩ := hV1.rules
  obtain ⟨u1, u2, u3⟩ := hA1.rules
  have HB1 := hide hB1'
  have HA1 := hide hA1
  have HR1 := hide hR1
  have HV1 := hide hV1
  have HG1 := hide hG1'
  clear hA1 hR1 hV1 hB1 hB1' hG1 hG1' g1 g2 g3 hb1 HB HA HR C1
  go_wp2_with fail
  refine (C2.out _ HB1.out).mono ?_
  rintro e w2 ⟨AH, nH, cH, rfl, hnH, hP⟩
  have hP0 := hP
  obtain ⟨q1, q2, q3⟩ := (HV1.out.below_ hP.below_).rules
  have HG2 := hide (HG1.out.below hP.below_)
  have hnHl : nH = pre.length := by have := (hP.rd_ 0 rfl).1; rw [hcells_length, headsM_len] at this; omega
  subst hnHl
  have HP := hide hP
  clear v1 v2 v3 u1 u2 u3 hP hP0 C2
  go_wp2_with fail
  refine (C3.out _ _ HG2.out).mono ?_
  rintro e w3 ⟨Al, nl, cl, rfl, hP3⟩
  have hnl : L.length = nl := by have := (hP3.rd_ 0 rfl).1; simpa using this
  have hS3 : Sep No (w1.alloc (.cells #[.slice AO nO cO, .slice Ag ng cg] 52)) w3 [rowI 23 3 AH pre.length cH (hcells (headsM ws pre (mixS ws pre L 0))), rowI 3 1 Al nl cl (ints L)] := HP.out.snocNew hP3.below_ _ (hP3.get 0 rfl) (fun g hg => (hP3.lo 0 rfl g hg).resolve_left (fun h => h))
  have HS3 := hide hS3
  clear q1 q2 q3 HG2 HP C3 hP3 hS3
  go_wp2_with fail
  go_loopw [6] (fun i wr => ∃ k : Nat, k ≤ pre.length ∧ i = .int .i64 k ∧ Sep No (w1.alloc (.cells #[.slice AO nO cO, .slice Ag ng cg] 52)) wr [rowI 23 3 AH pre.length cH (hcells (headsM ws pre (mixS ws pre L k))), rowI 3 1 Al nl cl (ints L)]) (fun i _ => pre.length - (intOf i).toNat)
  case atStart => exact ⟨0, by omega, rfl, HS3.out⟩
  case round =>
    clear HS3
    obtain ⟨k, hk, rfl, hS⟩ := hrel
    by_cases hlt : k < pre.length
    · have C := hide (has_any wr (fun _ => True) Al nl cl L (k : Int) (by omega) (hS.rd_ 1 rfl))
      have hrow : wr.ownsRow 0 23 3 (.slice AH pre.length cH) pre.length (hcells (headsM ws pre (mixS ws pre L k))) := hS.get 0 rfl
      obtain ⟨g, rfl⟩ := own_addr hrow (by omega)
      have hS5 := hS.store 0 (g := g) rfl (k * 3 + 1) (.bool (decide ((k : Int) ∈ L)))
      rw [hcells_set _ _ k (by rw [headsM_len]; exact hlt), headsM_set, mixS_succ] at hS5
      have f1 := hrow.frozenAt (k * 3 + 1)
      have f0 : wr.cell? ⟨g, k * 3 + 1, none⟩ = some (.bool _) := (hrow.cellAt (k * 3 + (0 + 1)) (by omega)).trans (hcells_at _ k (by rw [headsM_len]; exact hlt)).2.1
      have HS5 := hide hS5
      obtain ⟨b, hb⟩ : ∃ b, decide ((k : Int) ∈ L) = b := ⟨_, rfl⟩
      rw [hb] at C HS5
      clear hS hS5 hrow hb
      go_wp2_with fail
      refine C.out.mono ?_
      rintro e w4 ⟨rfl, rfl⟩
      go_wp2_with fail
      go_roundw
      case rel => exact ⟨k + 1, by omega, by go_num, HS5.out⟩
      case measure => simp [intOf]; omega
    · obtain rfl : k = pre.length := by omega
      rw [HME.out] at hS
      have hbb := hS.below_
      obtain ⟨v1, v2, v3⟩ := (HV1.out.below_ hbb).rules
      have v5 : wr.cell? ⟨w1.heap.size, 0, none⟩ = some (.slice AO nO cO) := by rw [v1]; rfl
      have v6 : wr.cell? ⟨w1.heap.size, 1, none⟩ = some (.slice Ag ng cg) := by rw [v1]; rfl
      have C := hide (C4.out wr _ AH pre.length cH (HG1.out.below hbb) (hS.rd_ 0 rfl))
      have HBr := hide (HB1.out.trans (hbb.mono HB1.out.size))
      have HRr := hide (HR1.out.below_ hbb)
      clear hS hbb v1 HG1 HA1 HR1 HV1 C4 HB1
      go_wp2_with fail
      refine C.out.mono ?_
      rintro e w5 ⟨va, rfl, hb5, hAr5⟩
      obtain ⟨X1, m1, e1, X2, m2, e2, rfl, k1, k2⟩ := hAr5
      have hB5 := HBr.out.trans (hb5.mono HBr.out.size)
      have hR5 := HRr.out.below_ hb5
      obtain ⟨y1, y2, y3⟩ := hR5.rules
      clear v2 v3 v5 v6 C
      go_wp2_with fail
      have hF := (hR5.set_ 0 (.slice X1 m1 e1)).set_ 1 (.slice X2 m2 e2)
      have hB6 := (hB5.setCell (p := ⟨w.heap.size + 1, 0, none⟩) (by simp) (.slice X1 m1 e1)).setCell (p := ⟨w.heap.size + 1, 1, none⟩) (by simp) (.slice X2 m2 e2)
      have hc : Chg (fun g => g = w.heap.size + 1) w5 ((w5.setCell ⟨w.heap.size + 1, 0, none⟩ (.slice X1 m1 e1)).setCell ⟨w.heap.size + 1, 1, none⟩ (.slice X2 m2 e2)) := ((Chg.refl (fun g => g = w.heap.size + 1) w5).setCell (p := ⟨w.heap.size + 1, 0, none⟩) (.inl rfl) _).setCell (p := ⟨w.heap.size + 1, 1, none⟩) (.inl rfl) _
      refine bodyPost_ret (v := .agg #[.slice X1 m1 e1, .slice X2 m2 e2]) (by simp [results, Try.results44, go_sem, y1]) rfl ⟨_, rfl, hB6, ?_⟩
      have hs4 := HBr.out.size
      have hr4 := HRr.out.lt
      exact ⟨_, _, _, _, _, _, rfl, (k1.chg hc (fun g h1 h2 => by omega)).more (fun g _ h => by omega), (k2.chg hc (fun g h1 h2 => by omega)).more (fun g _ h => by omega)⟩
end Go.Proofs.Ytpbafmdebflbpaa

namespace Go.Proofs.Ytpbafmdebflbpaa
open Go.RowKit

theorem perm_m6 {α : Type} (st v r a b m : α) : [st, v, r, a, b, m].Perm [v, st, m, r, a, b] := by
  classical
  rw [List.perm_iff_count]
  intro x
  simp only [List.count_cons, List.count_nil]
  omega
theorem perm_m3 {α : Type} (a b c : α) : [a, b, c].Perm [c, a, b] := by
  classical
  rw [List.perm_iff_count]
  intro x
  simp only [List.count_cons, List.count_nil]
  omega
/-- What an arena that may be has. -/
theorem good_arn {nW nR : Nat} {ws rs : List Int} {w : World} {AW AR : Option Addr} {cW cR : Nat} (hW : WsIn w AW nW cW ws) (hR : WsIn w AR nR cR rs) (hz : acheck nW nR ws rs = 0) : ∀ x ∈ rs ++ fieldsOf ws (parse nW ws 0).1, GoodW (parse nW ws 0).1 x := by
  obtain ⟨_, _, _, h4⟩ := acheck_zero hz
  have hG := good_of_check h4
  intro x hx
  have hb : 0 ≤ x ∧ x ≤ 18446744073709551615 := by
    rcases List.mem_append.1 hx with h | h
    · exact hR.wf x h
    · obtain ⟨p, _, hp⟩ := List.mem_flatMap.1 h
      exact hW.wf x (List.mem_of_mem_drop (List.mem_of_mem_take hp))
  exact ⟨hb.1, hb.2, hG.e x hx, hG.ix x hx⟩
theorem lev_root {pre : List (Nat × Nat)} {rs : List Int} {gs : List (List Val)} {x : Int} (hx : x ∈ rs) (hr : unR x = true) : ∃ k, Lev gs (rs.map (turnW (ixOf pre))) k (ixOf pre (unA x) : Int) := by
  refine ⟨0, .root _ (List.mem_map.2 ⟨x, hx, ?_⟩)⟩
  unfold turnW
  rw [hr]
  rfl
def MkAll (m : Nat) (ws : List Int) (pre : List (Nat × Nat)) (R : Nat) (Aw Ar As : Option Addr) (nw cw nr cr cs : Nat) (σ : MSt) (rs : List Int) (w : World) (AW AR : Option Addr) (cW cR : Nat) : List Item :=
  [allI (MkI m ws pre R Aw Ar As nw cw nr cr cs σ), rowI 24 1 Ar nr cr (u64s rs), blkI w.heap.size 55 #[.slice AW nw cW, .slice AR nr cR], blkI (w.heap.size + 1) 55 #[.slice none 0 0, .slice none 0 0]]

def MkAllB (m : Nat) (ws : List Int) (pre : List (Nat × Nat)) (R : Nat) (Aw Ar As : Option Addr) (nw cw nr cr cs : Nat) (σ : MSt) (rs : List Int) (w : World) (AW AR : Option Addr) (cW cR : Nat) (Ab : Option Addr) (cb : Nat) : List Item :=
  [allI (MkI m ws pre R Aw Ar As nw cw nr cr cs σ), rowI 24 1 Ar nr cr (u64s rs), blkI w.heap.size 55 #[.slice AW nw cW, .slice AR nr cR], blkI (w.heap.size + 1) 55 #[.slice none 0 0, .slice none 0 0], rowI 3 1 Ab pre.length cb (ints (placesOf pre))]

set_option maxRecDepth 100000 in
set_option maxHeartbeats 32000000 in
theorem mark_ok (w : World) (AW AR : Option Addr) (nW cW nR cR R : Nat) (ws rs : List Int) (hW : WsIn w AW nW cW ws) (hR : WsIn w AR nR cR rs) (hz : acheck nW nR ws rs = 0) (hR1 : 1 ≤ R) (hR2 : R ≤ 64) :
    Calls Try.prog 46 #[.agg #[.slice AW nW cW, .slice AR nR cR], .int .i64 R] w fun e w' => ∃ A c A' c', e = .returned (.tuple #[.agg #[.slice A nW c, .slice A' nR c'], .int .i64 0]) ∧
      Sep No w w' [rowI 24 1 A nW c (u64s (mkW ws (parse nW ws 0).1 (refS nW ws rs))), rowI 24 1 A' nR c' (u64s rs)] := by
  obtain ⟨h1, h2, h3, h4⟩ := acheck_zero hz
  have hok : ArnOk nW ws := ⟨hW.len, h1, fun x hx => (hW.wf x hx).1, h3⟩
  have hgood := good_arn hW hR hz
  have hgf : ∀ x ∈ fieldsOf ws (parse nW ws 0).1, GoodW (parse nW ws 0).1 x := fun x hx => hgood x (List.mem_append_right _ hx)
  have hgr : ∀ x ∈ rs, GoodW (parse nW ws 0).1 x := fun x hx => hgood x (List.mem_append_left _ hx)
  have hS0 := ((Sep.nil No w).blkAt 55 #[.slice AW nW cW, .slice AR nR cR] rfl).blkAt 55 #[.slice none 0 0, .slice none 0 0] (g := w.heap.size + 1) (by simp)
  obtain ⟨a1, a2, a3, a4⟩ := hS0.rules 0 (g := w.heap.size) (t := 55) rfl
  have HS0 := hide hS0
  have C1 := hide (arenaCheck_any _ AW AR nW cW nR cR ws rs (hW.below hS0.below_) (hR.below hS0.below_))
  rw [hz] at C1
  have C2 := hide (fun w' (hb : Below w.heap.size w w') => cleared_any w' AW AR nW cW nR cR ws rs (hW.below hb) (hR.below hb) hok h2)
  have C3 := hide (fun w' (hb : Below w.heap.size w w') => begins_any w' AW AR nW cW nR cR ws (hW.below hb) h1 h3)
  have VIS := hide (fun wr m Aw Ar As cw nr cr cs τ x hs hx hst => visit_any wr m R ws Aw Ar As nW cw nr cr cs τ x hs hok hx hR2 hst)
  have DR := hide (fun wr m Aw Ar As cw nr cr cs X τ hs hM => drain_any wr m R ws Aw Ar As nW cw nr cr cs (graphOf ws (parse nW ws 0).1) (rs.map (turnW (ixOf (parse nW ws 0).1))) X τ hs hok hgf hR2 hM (levN_arn _))
  have HEND := hide (fun σ h1 h2 h3 h4 i hi => marks_reach (nW := nW) (ws := ws) (rs := rs) (R := R) (σ := σ) hgr hgf h1 h2 h3 h4 i hi)
  have HLV := hide (levN_arn (nW := nW) (ws := ws) (rs.map (turnW (ixOf (parse nW ws 0).1))))
  have HG := hide (fld_good hgf)
  have HGR := hide hgr
  have HRL := hide hR.len
  have HRR := hide hR
  have HOBJ := hide (fun i hi => hok.obj (i := i) hi)
  have HFL := hide (fun i hi => hok.fld (i := i) hi)
  have HHEAD := hide (fun i hi S => hok.head (i := i) hi S)
  have HFIELD := hide (fun i j hi hj S => hok.field (i := i) (j := j) hi hj S)
  have HLEN := hide (fun S => hok.length S)
  have HOF := hide (fun i hi S => hok.ofRange (i := i) hi S)
  have HREF := hide (show ∀ i, refS nW ws rs i = decide ((i : Int) ∈ reachR (graphOf ws (parse nW ws 0).1) (rs.map (turnW (ixOf (parse nW ws 0).1)))) from fun i => rfl)
  have HROOT := hide (fun x (hx : x ∈ rs) hr => lev_root (pre := (parse nW ws 0).1) (gs := graphOf ws (parse nW ws 0).1) hx hr)
  obtain ⟨Sref, hSref⟩ : ∃ S, refS nW ws rs = S := ⟨_, rfl⟩
  rw [hSref] at HREF ⊢
  obtain ⟨pre, hpre⟩ : ∃ pre, (parse nW ws 0).1 = pre := ⟨_, rfl⟩
  rw [hpre] at C2 C3 VIS DR HEND HLV HG HGR HOBJ HFL HHEAD HFIELD HLEN HOF HREF HROOT ⊢
  obtain ⟨gs, hgs⟩ : ∃ gs, graphOf ws pre = gs := ⟨_, rfl⟩
  rw [hgs] at DR HEND HLV HREF HROOT
  obtain ⟨vs, hvs⟩ : ∃ vs, rs.map (turnW (ixOf pre)) = vs := ⟨_, rfl⟩
  rw [hvs] at DR HEND HLV HREF HROOT
  have HREFC := hide (fun (S : Nat → Bool) h => mkW_congr ws pre (S := S) (T := Sref) h)
  have k1 : decide ((R : Int) < 1) = false := by simp; omega
  have k2 : decide ((64 : Int) < R) = false := by simp; omega
  clear hS0 hz h3 h4 hok hgood hgf hgr hSref hpre hgs hvs hR hW
  go_enter Try.func46, Try.ntmps46
  go_wp2_with fail
  refine C1.out.mono ?_
  rintro e w1 ⟨rfl, hb1⟩
  have hS1 := HS0.out.below hb1
  clear a1 a2 a3 a4 C1
  obtain ⟨a1, a2, a3, a4⟩ := hS1.rules 0 (g := w.heap.size) (t := 55) rfl
  have HS1 := hide hS1
  clear hS1 HS0
  go_wp2_with fail
  refine (C2.out _ HS1.out.below_).mono ?_
  rintro e w2 ⟨Aw, cw, Ar, cr, rfl, hP⟩
  have hS2 := HS1.out.snocNew hP.below_ (allI [rowI 24 1 Aw nW cw (u64s (mkW ws pre (fun _ => false))), rowI 24 1 Ar nR cr (u64s rs)]) ⟨hP.all, hP.apart⟩ (fun g ⟨i, hi, hg⟩ => (hP.own i hi g hg).resolve_left (fun h => h))
  have hS3 := (hS2.perm (perm_m3 _ _ _)).split
  have hS4 : Sep No w (w2.alloc (.cells #[.slice Aw nW cw, .slice Ar nR cr, .slice none 0 0, .int .i64 R, .bool false] 152)) (MkAll w2.heap.size ws pre R Aw Ar none nW cw nR cr 0 ⟨fun _ => false, [], false⟩ rs w AW AR cW cR) :=
    Sep.join (l := [_, _, _]) (((hS3.blk 152 #[.slice Aw nW cw, .slice Ar nR cr, .slice none 0 0, .int .i64 R, .bool false]).nilRow0 3 1).perm (perm_m6 _ _ _ _ _ _))
  have HS4 := hide hS4
  obtain ⟨q1, q2, q3, q4⟩ := hS4.rules 2 (g := w.heap.size) (t := 55) rfl
  have q5 := q1 1
  clear a1 a2 a3 a4 hP hS2 hS3 hS4 HS1 C2 q1 q4
  go_wp2_with fail
  go_loopw [35] (fun k wr => ∃ (j : Nat) (σ : MSt) (As : Option Addr) (cs : Nat), j ≤ nR ∧ k = .int .i64 j ∧ Hid (MIn ws pre gs vs R (fun _ => True) ⟨fun _ => false, [], false⟩ σ rs j) ∧ Hid (σ.st = []) ∧ Sep No w wr (MkAll w2.heap.size ws pre R Aw Ar As nW cw nR cr cs σ rs w AW AR cW cR)) (fun k _ => nR - (intOf k).toNat)
  case atStart => exact ⟨0, _, _, _, by omega, rfl, ⟨MOk.start _ _ _ _ _ _, Gro.refl _ _, by simp⟩, rfl, HS4.out⟩
  case round =>
    clear HS4 q2 q3 q5
    obtain ⟨j, σ, As, cs, hj, rfl, HIN, HST, hS⟩ := hrel
    by_cases hlj : j < nR
    · have hjl : j < rs.length := by rw [HRL.out]; exact hlj
      obtain ⟨ad, hA, _, had, hc⟩ := (HRR.out.below hS.below_).rd.at_ hlj
      have e0 := hc (.int .u64 rs[j]) (by simp [u64s, List.getElem?_eq_getElem hjl])
      have HTK := hide (List.take_succ_eq_append_getElem hjl)
      have hmem := List.getElem_mem hjl
      have hgx := HGR.out _ hmem
      have hlx := HROOT.out _ hmem
      obtain ⟨x, hx⟩ : ∃ x, rs[j] = x := ⟨_, rfl⟩
      rw [hx] at e0 HTK hgx hlx
      have HIN2 := hide (HIN.out.next HTK.out hgx hlx)
      have C := hide (VIS.out wr w2.heap.size Aw Ar As cw nR cr cs σ x (hS.get 0 rfl) hgx HIN.out.ok.room)
      have DRc := hide (fun w' A3 c3 hs => DR.out w' w2.heap.size Aw Ar A3 cw nR cr c3 (fun _ => True) (vis pre R σ x) hs HIN2.out.ok)
      rw [hA]
      have HS := hide hS
      have HA := hide hA
      clear hS hmem hgx hlx hx HTK hc hjl HIN hA
      go_wp2_with fail
      refine C.out.mono ?_
      rintro e w6 ⟨A3, c3, ⟨v, rfl⟩, hP⟩
      have hS6 : Sep No w w6 (MkAll w2.heap.size ws pre R Aw Ar A3 nW cw nR cr c3 (vis pre R σ x) rs w AW AR cW cR) := HS.out.call 0 rfl hP
      have C6 := hide (DRc.out w6 A3 c3 (hS6.get 0 rfl))
      have HS6 := hide hS6
      clear hP HS C hS6 e0 had DRc
      go_wp2_with fail
      refine C6.out.mono ?_
      rintro e w7 ⟨υ, A4, c4, ⟨v, rfl⟩, hm4, hg4, hst4, hP⟩
      have hS7 : Sep No w w7 (MkAll w2.heap.size ws pre R Aw Ar A4 nW cw nR cr c4 υ rs w AW AR cW cR) := HS6.out.call 0 rfl hP
      have HS7 := hide hS7
      have HIN3 := hide (HIN2.out.go hm4 hg4)
      have HST3 := hide hst4
      clear hP HS6 C6 hS7 hm4 hg4 hst4 HIN2 HST
      go_wp2_with fail
      go_roundw
      case rel => exact ⟨j + 1, υ, A4, c4, by omega, by go_num, HIN3, HST3, by first | exact HS7.out | (have h9 := HS7.out; rw [HA.out] at h9; exact h9)⟩
      case measure => simp [intOf]; omega
    · obtain rfl : j = nR := by omega
      have HMK := hide HIN.out.ok
      have HSEEN := hide (show ∀ x ∈ rs, unR x = true → σ.S (ixOf pre (unA x)) = true from fun x hx hr => HIN.out.seen x (by rw [List.take_of_length_le (by rw [HRL.out]; omega)]; exact hx) hr)
      have HS := hide hS
      clear hS HIN hlj
      go_wp2_with fail
      go_loopg [11] (unm pre.length σ.S + (if σ.lost = true then 1 else 0)) (fun n p wr => ∃ (τ : MSt) (As : Option Addr) (cs : Nat), n = unm pre.length τ.S + (if τ.lost = true then 1 else 0) ∧ Hid (MOk ws pre gs vs R (fun _ => True) τ) ∧ Hid (∀ x ∈ rs, unR x = true → τ.S (ixOf pre (unA x)) = true) ∧ Hid (τ.st = []) ∧ Sep No w wr (MkAll w2.heap.size ws pre R Aw Ar As nW cw j cr cs τ rs w AW AR cW cR))
      case atStart => exact ⟨σ, As, cs, rfl, HMK, HSEEN, HST, HS.out⟩
      case round =>
        clear HS HMK HSEEN HST
        obtain ⟨τ, As, cs, hgk, HMK, HSEEN, HST, hS⟩ := hrel
        have hS' := hS.split
        obtain ⟨b1, b2, b3, b4⟩ := hS'.rules 2 (g := w2.heap.size) (t := 152) rfl
        have b5 : wr.cell? ⟨w2.heap.size, 4, none⟩ = some (.bool τ.lost) := by rw [b1]; rfl
        cases hl : τ.lost with
        | false =>
          rw [hl] at b5
          have b6 : wr.cell? ⟨w2.heap.size, 0, none⟩ = some (.slice Aw nW cw) := by rw [b1]; rfl
          have b7 : wr.cell? ⟨w2.heap.size, 1, none⟩ = some (.slice Ar j cr) := by rw [b1]; rfl
          obtain ⟨z1, z2, z3, z4⟩ := hS'.rules 5 (g := w.heap.size + 1) (t := 55) rfl
          have HE := hide (HREFC.out τ.S (fun i hi => (HEND.out τ HMK.out hl HST.out HSEEN.out i hi).trans (HREF.out i).symm))
          have hF := ((hS'.set_ 5 (g := w.heap.size + 1) (t := 55) rfl 0 (.slice Aw nW cw)).set_ 5 (g := w.heap.size + 1) (t := 55) rfl 1 (.slice Ar j cr))
          have HF := hide hF
          clear hS hS' b1 b4 z4 hgk hF
          go_wp2_with fail
          have h9 := HF.out.sub (l := [rowI 24 1 Aw nW cw (u64s (mkW ws pre τ.S)), rowI 24 1 Ar j cr (u64s rs)]) (by simp [MkI])
          rw [HE.out] at h9
          refine bodyPost_ret (v := .tuple #[.agg #[.slice Aw nW cw, .slice Ar j cr], .int .i64 0]) (by simp [results, Try.results46, go_sem, z1]) rfl ⟨_, _, _, _, rfl, h9⟩
        | true =>
          rw [hl] at b5 hgk
          have hS1 : Sep No w (wr.setCell ⟨w2.heap.size, 4, none⟩ (.bool false)) (MkAll w2.heap.size ws pre R Aw Ar As nW cw j cr cs ⟨τ.S, [], false⟩ rs w AW AR cW cR) := by
            have h := hS'.set_ 2 (g := w2.heap.size) (t := 152) rfl 4 (.bool false)
            unfold MkI at h
            rw [HST.out] at h
            exact Sep.join (l := [_, _, _]) h
          have HM0 := hide (HMK.out.again HST.out)
          have H1 := hide (show gk = unm pre.length τ.S + 1 from hgk)
          obtain ⟨q1, q2, q3, q4⟩ := hS1.rules 2 (g := w.heap.size) (t := 55) rfl
          have q5 := q1 0
          have q6 := q1 1
          have C := hide (C3.out _ hS1.below_)
          have HS1 := hide hS1
          clear hS hS' hS1 b1 b4 q1 q4 hgk HMK
          go_wp2_with fail
          refine C.out.mono ?_
          rintro e w5 ⟨Ab, nb, cb, rfl, hnb, hP⟩
          have hnl : nb = pre.length := by have := (hP.rd_ 0 rfl).1; simp [placesOf] at this; omega
          subst hnl
          have hS5 : Sep No w w5 (MkAllB w2.heap.size ws pre R Aw Ar As nW cw j cr cs ⟨τ.S, [], false⟩ rs w AW AR cW cR Ab cb) :=
            HS1.out.snocNew hP.below_ _ (hP.get 0 rfl) (fun g hg => (hP.lo 0 rfl g hg).resolve_left (fun h => h))
          have HS5 := hide hS5
          clear C HS1 hP hS5 q2 q3 q5 q6 b2 b3 b5
          go_wp2_with fail
          go_loopw [55] (fun k wx => ∃ (i : Nat) (υ : MSt) (As : Option Addr) (cs : Nat), i ≤ pre.length ∧ k = .int .i64 i ∧ Hid (MOk ws pre gs vs R (fun a => a < i) υ) ∧ Hid (Gro pre.length ⟨τ.S, [], false⟩ υ) ∧ Hid (υ.st = []) ∧ Sep No w wx (MkAllB w2.heap.size ws pre R Aw Ar As nW cw j cr cs υ rs w AW AR cW cR Ab cb)) (fun k _ => pre.length - (intOf k).toNat)
          case atStart => exact ⟨0, _, _, _, by omega, rfl, HM0, Gro.refl _ _, rfl, HS5.out⟩
          case round =>
            clear HS5 HM0
            obtain ⟨i, υ, As, cs, hi, rfl, HMK, HGR2, HST2, hS⟩ := hrel
            by_cases hli : i < pre.length
            · obtain ⟨ad, hA, _, had, hc⟩ := (hS.rd_ 4 rfl).at_ hli
              have e0 := hc (.int .i64 (plcN pre i)) (by rw [← plc_get hli]; simp [placesOf, List.getElem?_eq_getElem hli])
              obtain ⟨o1, o2, o3, o4, o5, o6, o7⟩ := HOBJ.out i hli
              have hS' := hS.split
              obtain ⟨b1, b2, b3, b4⟩ := hS'.rules 2 (g := w2.heap.size) (t := 152) rfl
              have b5 := b1 0
              have hrowW : wr.ownsRow 0 24 1 (.slice Aw nW cw) nW (u64s (mkW ws pre υ.S)) := hS'.get 0 rfl
              obtain ⟨g, hAw⟩ := own_addr hrowW (by omega)
              have hcw := own_cap hrowW
              subst hAw
              subst hA
              have MB := (mark_bits (len := (lenN pre i : Int)) (a := ageN ws pre i) (by omega) (by omega) o6 o7 (υ.S i)).2.2
              have f0 : wr.cell? ⟨g, plcN pre i, none⟩ = some (.int .u64 (headW (lenN pre i : Int) (υ.S i) (ageN ws pre i))) := by
                rw [hrowW.cellAt _ (by omega), u64s_get, HHEAD.out i hli]; rfl
              have hhp := head_parts_ (len := (lenN pre i : Int)) (a := ageN ws pre i) (by omega) (by omega) o6 o7 (υ.S i)
              obtain ⟨at_, hat⟩ : ∃ at_, plcN pre i = at_ := ⟨_, rfl⟩
              obtain ⟨len, hln⟩ : ∃ len, lenN pre i = len := ⟨_, rfl⟩
              obtain ⟨hw, hhw⟩ : ∃ hw, headW (lenN pre i : Int) (υ.S i) (ageN ws pre i) = hw := ⟨_, rfl⟩
              rw [hat] at e0 f0 o1 o4
              rw [hhw] at f0 MB hhp
              rw [hln] at o4 o5
              have C := hide (fieldsAt_any wr g nW cw at_ len hw f0 ⟨hhp.2.2.2.2.1, hhp.2.2.2.2.2⟩ h1 hcw.1 hcw.2 hhp.2.2.2.1 (by rw [hhp.1, hln]) o4)
              cases hsi : υ.S i with
              | false =>
                rw [hsi] at MB
                simp only [Bool.false_eq_true, if_false] at MB
                have CB := hide (bit_any wr hw 0 MB)
                have HMK2 := hide (HMK.out.weak (Y := fun a => a < i + 1) (fun a _ hs ha => by
                  rcases Nat.lt_or_ge a i with h | h
                  · exact h
                  · obtain rfl : a = i := by omega
                    rw [hsi] at hs; cases hs))
                have HS := hide hS
                clear hS hS' b1 b4 hrowW hhp MB hc o2 o3 o6 o7 C hcw hsi
                go_wp2_with fail
                refine CB.out.mono ?_
                rintro e w6 ⟨rfl, rfl⟩
                go_wp2_with fail
                go_roundw
                case rel => exact ⟨i + 1, υ, As, cs, by omega, by go_num, HMK2, HGR2, HST2, HS.out⟩
                case measure => simp [intOf]; omega
              | true =>
                rw [hsi, if_pos rfl] at MB
                have CB := hide (bit_any wr hw 256 MB)
                have HFLi := hide ((HFL.out i hli).trans hln)
                have HSI := hide hsi
                have HS := hide hS
                clear hS hS' b1 b4 hrowW hhp MB hc o2 o3 o6 o7 hsi
                go_wp2_with fail
                refine CB.out.mono ?_
                rintro e w6 ⟨rfl, rfl⟩
                go_wp2_with fail
                refine C.out.mono ?_
                rintro e w7 ⟨Af, cf, rfl, hb7, hAf⟩
                have HS7 := hide (HS.out.below hb7)
                clear C CB HS hb7 b2 b3 b5 e0 f0 had
                go_wp2_with fail
                go_loopw [76] (fun k wy => ∃ (p : Nat) (φ : MSt) (As : Option Addr) (cs : Nat), p ≤ len ∧ k = .int .i64 p ∧ Hid (MIn ws pre gs vs R (fun a => a < i) υ φ (fldN ws pre i) p) ∧ Hid (φ.st = []) ∧ Sep No w wy (MkAllB w2.heap.size ws pre R (some ⟨g, 0, none⟩) Ar As nW cw j cr cs φ rs w AW AR cW cR (some ad) cb)) (fun k _ => len - (intOf k).toNat)
                case atStart => exact ⟨0, _, _, _, by omega, rfl, ⟨HMK.out, Gro.refl _ _, by simp⟩, HST2, HS7.out⟩
                case round =>
                  clear HS7
                  obtain ⟨p, φ, As, cs, hp, rfl, HIN, HST3, hS⟩ := hrel
                  by_cases hlp : p < len
                  · have hjl : p < (fldN ws pre i).length := by rw [HFLi.out]; exact hlp
                    have hrowW : wr.ownsRow 0 24 1 (.slice (some ⟨g, 0, none⟩) nW cw) nW (u64s (mkW ws pre φ.S)) := hS.split.get 0 rfl
                    have hfd := HFIELD.out i p hli (by omega) φ.S
                    rw [hat, List.getElem?_eq_getElem hjl] at hfd
                    have f0 : wr.cell? ⟨g, at_ + 1 + p, none⟩ = some (.int .u64 (fldN ws pre i)[p]) := by
                      rw [hrowW.cellAt (at_ + 1 + p) (by omega), u64s_get, hfd]; rfl
                    have HTK := hide (List.take_succ_eq_append_getElem hjl)
                    have hmem := List.getElem_mem hjl
                    have hgx := HG.out i hli _ hmem
                    have hlx := HLV.out i hli (HIN.out.ok.sound i hli (HIN.out.gro.mono i HSI.out)) _ hmem
                    obtain ⟨x, hx⟩ : ∃ x, (fldN ws pre i)[p] = x := ⟨_, rfl⟩
                    rw [hx] at f0 HTK hgx hlx
                    have HIN2 := hide (HIN.out.next HTK.out hgx hlx)
                    have C := hide (VIS.out wr w2.heap.size _ Ar As cw j cr cs φ x (hS.get 0 rfl) hgx HIN.out.ok.room)
                    have DRc := hide (fun w' A3 c3 hs => DR.out w' w2.heap.size (some ⟨g, 0, none⟩) Ar A3 cw j cr c3 (fun a => a < i) (vis pre R φ x) hs HIN2.out.ok)
                    have hAf2 := hAf (by omega)
                    subst hAf2
                    have HS := hide hS
                    clear hS hrowW hfd hmem hgx hlx hx HTK HIN hjl
                    go_wp2_with fail
                    refine C.out.mono ?_
                    rintro e w8 ⟨A3, c3, ⟨v, rfl⟩, hP⟩
                    have hS8 : Sep No w w8 (MkAllB w2.heap.size ws pre R (some ⟨g, 0, none⟩) Ar A3 nW cw j cr c3 (vis pre R φ x) rs w AW AR cW cR (some ad) cb) := HS.out.call 0 rfl hP
                    have C6 := hide (DRc.out w8 A3 c3 (hS8.get 0 rfl))
                    have HS8 := hide hS8
                    clear hP HS C hS8 DRc f0
                    go_wp2_with fail
                    refine C6.out.mono ?_
                    rintro e w9 ⟨ψ, A4, c4, ⟨v, rfl⟩, hm4, hg4, hst4, hP⟩
                    have hS9 : Sep No w w9 (MkAllB w2.heap.size ws pre R (some ⟨g, 0, none⟩) Ar A4 nW cw j cr c4 ψ rs w AW AR cW cR (some ad) cb) := HS8.out.call 0 rfl hP
                    have HS9 := hide hS9
                    have HIN3 := hide (HIN2.out.go hm4 hg4)
                    have HST4 := hide hst4
                    clear hP HS8 C6 hS9 hm4 hg4 hst4 HIN2 HST3
                    go_wp2_with fail
                    go_roundw
                    case rel => exact ⟨p + 1, ψ, A4, c4, by omega, by go_num, HIN3, HST4, HS9.out⟩
                    case measure => simp [intOf]; omega
                  · obtain rfl : p = len := by omega
                    have HM3 := hide ((HIN.out.ok.weak (Y := fun a => a < i + 1 ∧ a ≠ i) (fun a _ _ ha => by omega)).done (X := fun a => a < i + 1) (fun x hx hr => HIN.out.seen x (by rw [List.take_of_length_le (by rw [HFLi.out]; omega)]; exact hx) hr))
                    have HGR3 := hide (Gro.trans HGR2.out HIN.out.gro)
                    have HS := hide hS
                    clear HIN hS
                    go_wp2_with fail
                    go_roundw
                    case rel => exact ⟨i + 1, φ, As, cs, by omega, by go_num, HM3, HGR3, HST3, HS.out⟩
                    case measure => simp [intOf]; omega
            · obtain rfl : i = pre.length := by omega
              have HM3 := hide (HMK.out.weak (Y := fun _ => True) (fun a ha _ _ => ha))
              have HSEEN2 := hide (show ∀ x ∈ rs, unR x = true → υ.S (ixOf pre (unA x)) = true from fun x hx hr => HGR2.out.mono _ (HSEEN.out x hx hr))
              have H2 := hide (show unm pre.length υ.S + (if υ.lost = true then 1 else 0) < gk by
                have h1 := H1.out
                have h2 := HGR2.out.unm_
                have h3 := HGR2.out.lost
                dsimp only at h2 h3
                split
                · rename_i h4
                  rcases h3 h4 with h5 | h5
                  · cases h5
                  · omega
                · omega)
              have HS : Hid (Sep No w wr (MkAll w2.heap.size ws pre R Aw Ar As nW cw j cr cs υ rs w AW AR cW cR)) := hide (hS.sub (by simp [MkAll, MkAllB]))
              clear hS HMK HGR2 HSEEN H1
              go_wp2_with fail
              go_roundg (unm pre.length υ.S + (if υ.lost = true then 1 else 0))
              case measure => exact H2.out
              case rel => exact ⟨υ, As, cs, rfl, HM3, HSEEN2, HST2, HS.out⟩
end Go.Proofs.Ytpbafmdebflbpaa
