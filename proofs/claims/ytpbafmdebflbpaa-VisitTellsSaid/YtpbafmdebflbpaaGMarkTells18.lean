/- Marks: the reference's marked arena; the plain part. What the reference's Reach tells: a list that is closed under references. Marks: the reference's Mark. -/
import Derived.Test.YtpbafmdebflbpaaGMarkTells17
import Derived.Test.YtpbafmdebflbpaaGMarkTells15
import Derived.Test.YtpbafmdebflbpaaGMarkTells11
set_option linter.unusedSimpArgs false
set_option linter.unusedVariables false
namespace Go.Proofs.Ytpbafmdebflbpaa
open Go.RowKit

/-- Headers with given marks. -/
def hdM (ws : List Int) (pre : List (Nat × Nat)) (S : Nat → Bool) (i : Nat) : Hd := ((lenN pre i : Int), S i, ageN ws pre i)
def headsM (ws : List Int) (pre : List (Nat × Nat)) (S : Nat → Bool) : List Hd := (List.range pre.length).map (hdM ws pre S)
theorem headsM_len (ws : List Int) (pre : List (Nat × Nat)) (S : Nat → Bool) : (headsM ws pre S).length = pre.length := by simp [headsM]
theorem headsM_self {nW : Nat} {ws : List Int} (h : ArnOk nW ws) : headsL ws (parse nW ws 0).1 = headsM ws (parse nW ws 0).1 (fun i => hMark (ws.getD (plcN (parse nW ws 0).1 i) 0)) := by
  refine List.ext_getElem (by simp [headsL, headsM]) fun k h1 h2 => ?_
  have hk : k < (parse nW ws 0).1.length := by simpa [headsL] using h1
  obtain ⟨_, _, h6, _⟩ := h.obj hk
  have e : plcN (parse nW ws 0).1 k = ((parse nW ws 0).1[k]).1 := by unfold plcN; rw [List.getD_eq_getElem?_getD, List.getElem?_eq_getElem hk]; rfl
  simp only [headsL, headsM, List.getElem_map, List.getElem_range, hdM, headOf, ageN]
  rw [e] at h6 ⊢
  rw [h6]
theorem pack_self {nW : Nat} {ws : List Int} {x : Int} (at_ : List Int) (h : ArnOk nW ws) (hx : GoodW (parse nW ws 0).1 x) (hat : ∀ k, k < (parse nW ws 0).1.length → at_[k]? = some (plcN (parse nW ws 0).1 k : Int)) : packV at_ (turnW (ixOf (parse nW ws 0).1) x) = x := by
  unfold packV turnW
  cases hr : unR x with
  | false =>
    simp only [Bool.false_eq_true, if_false]
    have hn := hx.num hr
    have ha : unA x = unN x := by unfold unA; rw [if_pos hn]
    rw [ha]
    exact unN_pack x hx.lo hx.hi hn
  | true =>
    obtain ⟨r1, r2, r3, r4, r5⟩ := hx.ref hr
    have r4' : (plcN (parse nW ws 0).1 (ixOf (parse nW ws 0).1 (unA x)) : Int) = x / 2 := by rw [← r4]; unfold plcN plc; simp
    simp only [if_true]
    rw [show ((ixOf (parse nW ws 0).1 (unA x) : Nat) : Int).toNat = ixOf (parse nW ws 0).1 (unA x) from by omega, List.getD_eq_getElem?_getD, hat _ r5]
    unfold packA
    rw [if_pos rfl, Option.getD_some, r4', if_pos (by have := hx.lo; omega)]
    omega
theorem graph_at {nW : Nat} {ws : List Int} (h : ArnOk nW ws) (k : Nat) (hk : k < (parse nW ws 0).1.length) : (atF (graphOf ws (parse nW ws 0).1))[k]? = some (plcN (parse nW ws 0).1 k : Int) := by
  have h1 := parse_at nW ws 0 k h.pos hk
  have e : plcN (parse nW ws 0).1 k = ((parse nW ws 0).1[k]).1 := by unfold plcN; rw [List.getD_eq_getElem?_getD, List.getElem?_eq_getElem hk]; rfl
  have hm := fun p hp => parse_mem nW ws 0 p h.pos hp
  have hl := h.len
  rw [e, h1]
  unfold atF
  rw [List.getElem?_map, List.getElem?_range (by unfold graphOf; rw [List.length_map]; exact hk)]
  simp only [Option.map_some]
  congr 1
  unfold graphOf
  rw [← List.map_take, List.map_map]
  have key : ∀ l : List (Nat × Nat), (∀ p ∈ l, p ∈ (parse nW ws 0).1) → (l.map ((fun f : List Val => (1 : Int) + (f.length : Int)) ∘ fun p => (fieldsAt ws p).map (turnW (ixOf (parse nW ws 0).1)))).sum = ((l.map fun p => 1 + p.2).sum : Nat) := by
    intro l hl2
    induction l with
    | nil => rfl
    | cons a l ih =>
      have ih := ih (fun p hp => hl2 p (by simp [hp]))
      obtain ⟨_, _, _, h4⟩ := hm a (hl2 a (by simp))
      have hf : (fieldsAt ws a).length = a.2 := by unfold fieldsAt; rw [List.length_take, List.length_drop]; omega
      simp only [List.map_cons, List.sum_cons, Function.comp, List.length_map, hf] at ih ⊢
      rw [ih]
      omega
  rw [key _ (fun p hp => List.mem_of_mem_take hp)]
  simp
/-- What the reference lays with given marks. -/
theorem lay_marks {nW : Nat} {ws : List Int} (h : ArnOk nW ws) (hgf : ∀ x ∈ fieldsOf ws (parse nW ws 0).1, GoodW (parse nW ws 0).1 x) (S : Nat → Bool) : layW (graphOf ws (parse nW ws 0).1) (headsM ws (parse nW ws 0).1 S) = mkW ws (parse nW ws 0).1 S := by
  have hat := graph_at h
  unfold layW
  generalize hA : atF (graphOf ws (parse nW ws 0).1) = A at *
  have hgr : graphOf ws (parse nW ws 0).1 = (List.range (parse nW ws 0).1.length).map fun i => (fldN ws (parse nW ws 0).1 i).map (turnW (ixOf (parse nW ws 0).1)) := by
    refine List.ext_getElem (by simp [graphOf]) fun k h1 h2 => ?_
    have hk : k < (parse nW ws 0).1.length := by simpa [graphOf] using h1
    have e : (parse nW ws 0).1.getD k (0, 0) = (parse nW ws 0).1[k] := by rw [List.getD_eq_getElem?_getD, List.getElem?_eq_getElem hk]; rfl
    simp only [graphOf, List.getElem_map, List.getElem_range, fldN, plcN, lenN, fieldsAt, e]
  rw [hgr]
  unfold headsM
  rw [zip_map_map, List.flatMap_map]
  unfold mkW
  refine flatMap_congr_ fun i hi => ?_
  have hi' : i < (parse nW ws 0).1.length := List.mem_range.1 hi
  dsimp only
  unfold mkB hdM
  congr 1
  rw [List.map_map]
  conv => rhs; rw [← List.map_id (fldN ws (parse nW ws 0).1 i)]
  refine List.map_congr_left fun x hx => ?_
  exact pack_self A h (hgf x (List.mem_flatMap.2 ⟨(parse nW ws 0).1[i], List.getElem_mem hi', by
    have e : (parse nW ws 0).1.getD i (0, 0) = (parse nW ws 0).1[i] := by rw [List.getD_eq_getElem?_getD, List.getElem?_eq_getElem hi']; rfl
    rw [← e]; exact hx⟩)) hat
theorem roots_self {nW : Nat} {ws rs : List Int} (h : ArnOk nW ws) (hgr : ∀ x ∈ rs, GoodW (parse nW ws 0).1 x) : (rs.map (turnW (ixOf (parse nW ws 0).1))).map (packV (atF (graphOf ws (parse nW ws 0).1))) = rs := by
  have hat := graph_at h
  rw [List.map_map]
  conv => rhs; rw [← List.map_id rs]
  exact List.map_congr_left fun x hx => pack_self _ h (hgr x hx) hat
theorem headsM_ok {nW : Nat} {ws : List Int} (h : ArnOk nW ws) (S : Nat → Bool) : ∀ z ∈ headsM ws (parse nW ws 0).1 S, HdOk z := by
  intro z hz
  obtain ⟨i, hi, rfl⟩ := List.mem_map.1 hz
  obtain ⟨_, _, _, _, h4, h5, h6⟩ := h.obj (List.mem_range.1 hi)
  unfold HdOk hdM
  dsimp only
  omega
end Go.Proofs.Ytpbafmdebflbpaa

namespace Go.Proofs.Ytpbafmdebflbpaa

theorem reach_ok {gs : List (List Val)} {vs : List Val} : OrdOk gs.length (reachR gs vs) := by
  refine ⟨?_, fun x hx => ?_⟩
  · unfold reachR
    rw [List.nodup_iff_pairwise_ne, List.pairwise_map]
    exact (List.Pairwise.filter _ List.nodup_range).imp (fun h e => h (by omega))
  · unfold reachR at hx
    obtain ⟨i, hi, rfl⟩ := List.mem_map.1 hx
    have := List.mem_range.1 (List.mem_filter.1 hi).1
    omega
theorem reach_closed {gs : List (List Val)} {vs : List Val} (hg : ∀ fs ∈ gs, ValsOk gs.length fs) (hv : ValsOk gs.length vs) : (∀ x ∈ reachR gs vs, ∀ v ∈ fieldsI gs x, v.1 = true → v.2 ∈ reachR gs vs) ∧ (∀ v ∈ vs, v.1 = true → v.2 ∈ reachR gs vs) := by
  refine ⟨fun x hx v hv1 h1 => ?_, fun v hv1 h1 => ?_⟩
  · obtain ⟨k, hk⟩ := (mem_reachR hg hv x).1 hx
    obtain ⟨b, y⟩ := v
    dsimp only at h1
    subst h1
    exact (mem_reachR hg hv y).2 ⟨k + 1, .step _ _ _ hk hv1⟩
  · obtain ⟨b, y⟩ := v
    dsimp only at h1
    subst h1
    exact (mem_reachR hg hv y).2 ⟨0, .root _ hv1⟩
/-- The list, by whom it has. -/
theorem reach_list {gs : List (List Val)} {vs : List Val} (S : Nat → Bool) (h : ∀ i, i < gs.length → S i = decide ((i : Int) ∈ reachR gs vs)) : reachR gs vs = ((List.range gs.length).filter S).map fun (i : Nat) => (i : Int) := by
  unfold reachR
  congr 1
  refine List.filter_congr fun i hi => ?_
  have hi' := List.mem_range.1 hi
  rw [h i hi']
  rw [decide_eq_decide]
  constructor
  · intro h1
    unfold reachR
    exact List.mem_map.2 ⟨i, List.mem_filter.2 ⟨hi, by simpa using h1⟩, rfl⟩
  · intro h1
    unfold reachR at h1
    obtain ⟨j, hj, hji⟩ := List.mem_map.1 h1
    obtain rfl : j = i := by omega
    simpa using (List.mem_filter.1 hj).2
end Go.Proofs.Ytpbafmdebflbpaa

namespace Go.Proofs.Ytpbafmdebflbpaa
open Go.RowKit

theorem hcells_set (b : Bool) : ∀ (l : List Hd) (k : Nat) (hk : k < l.length), (hcells l).set (k * 3 + 1) (.bool b) = hcells (l.set k (l[k].1, b, l[k].2.2))
  | [], k, h => by simp at h
  | a :: l, 0, h => by simp [hcells]
  | a :: l, k + 1, h => by
    have ih := hcells_set b l k (by simpa using h)
    have e1 : hcells (a :: l) = [.int .i64 a.1, .bool a.2.1, .int .i64 a.2.2] ++ hcells l := rfl
    rw [e1, List.set_append_right _ _ (by simp; omega)]
    rw [show (k + 1) * 3 + 1 - [Value.int .i64 a.1, .bool a.2.1, .int .i64 a.2.2].length = k * 3 + 1 from by simp; omega, ih]
    rfl
theorem headsM_set (ws : List Int) (pre : List (Nat × Nat)) (S : Nat → Bool) (k : Nat) (b : Bool) (hk : k < (headsM ws pre S).length) : (headsM ws pre S).set k ((headsM ws pre S)[k].1, b, (headsM ws pre S)[k].2.2) = headsM ws pre (addS S k b) := by
  refine List.ext_getElem (by simp [headsM]) fun i h1 h2 => ?_
  rw [List.getElem_set]
  split
  · rename_i e
    subst e
    simp [headsM, hdM, addS]
  · rename_i e
    simp [headsM, hdM, addS, Ne.symm e]
/-- The first k by the list. -/
def mixS (ws : List Int) (pre : List (Nat × Nat)) (L : List Int) (k : Nat) : Nat → Bool := fun i => if i < k then decide ((i : Int) ∈ L) else hMark (ws.getD (plcN pre i) 0)
theorem mixS_succ (ws : List Int) (pre : List (Nat × Nat)) (L : List Int) (k : Nat) : addS (mixS ws pre L k) k (decide ((k : Int) ∈ L)) = mixS ws pre L (k + 1) := by
  funext i
  unfold addS mixS
  by_cases h : i = k
  · subst h; simp
  · rw [if_neg h]
    by_cases h2 : i < k
    · rw [if_pos h2, if_pos (by omega)]
    · rw [if_neg h2, if_neg (by omega)]
theorem headsM_congr (ws : List Int) (pre : List (Nat × Nat)) {S T : Nat → Bool} (h : ∀ i, i < pre.length → S i = T i) : headsM ws pre S = headsM ws pre T := by
  unfold headsM
  refine List.map_congr_left fun i hi => ?_
  unfold hdM
  rw [h i (List.mem_range.1 hi)]

/-- The marks that the reference tells. -/
def refS (nW : Nat) (ws rs : List Int) : Nat → Bool := fun i => decide ((i : Int) ∈ reachR (graphOf ws (parse nW ws 0).1) (rs.map (turnW (ixOf (parse nW ws 0).1))))

set_option maxRecDepth 100000 in
set_option maxHeartbeats 16000000 in
theorem refMark_any (w : World) (AW AR : Option Addr) (nW cW nR cR : Nat) (ws rs : List Int) (hW : WsIn w AW nW cW ws) (hR : WsIn w AR nR cR rs) (hz : acheck nW nR ws rs = 0) :
    Calls Try.prog 44 #[.agg #[.slice AW nW cW, .slice AR nR cR]] w fun e w' => ∃ v, e = .returned v ∧ Below w.heap.size w w' ∧
      ArenaRd w w' v (mkW ws (parse nW ws 0).1 (refS nW ws rs)) rs := by
  obtain ⟨h1, h2, h3, h4⟩ := acheck_zero hz
  have hw0 : ∀ x ∈ ws, 0 ≤ x := fun x hx => (hW.wf x hx).1
  have hok : ArnOk nW ws := ⟨hW.len, h1, hw0, h3⟩
  have hG := good_of_check h4
  have hGW : ∀ x ∈ rs ++ fieldsOf ws (parse nW ws 0).1, GoodW (parse nW ws 0).1 x := fun x hx => by
    have hb : 0 ≤ x ∧ x ≤ 18446744073709551615 := by
      rcases List.mem_append.1 hx with h | h
      · exact hR.wf x h
      · obtain ⟨p, _, hp⟩ := List.mem_flatMap.1 h
        exact hW.wf x (List.mem_of_mem_drop (List.mem_of_mem_take hp))
    exact ⟨hb.1, hb.2, hG.e x hx, hG.ix x hx⟩
  have hgl : (graphOf ws (parse nW ws 0).1).length = (parse nW ws 0).1.length := by unfold graphOf; rw [List.length_map]
  have hvg : ∀ fs ∈ graphOf ws (parse nW ws 0).1, ValsOk (graphOf ws (parse nW ws 0).1).length fs := by
    rw [hgl]
    intro fs hfs
    obtain ⟨p, hp, rfl⟩ := List.mem_map.1 hfs
    exact good_vals fun x hx => hGW x (List.mem_append_right _ (List.mem_flatMap.2 ⟨p, hp, hx⟩))
  have hvr : ValsOk (graphOf ws (parse nW ws 0).1).length (rs.map (turnW (ixOf (parse nW ws 0).1))) := by rw [hgl]; exact good_vals fun x hx => hGW x (List.mem_append_left _ hx)
  have hfl : ∀ fs ∈ graphOf ws (parse nW ws 0).1, fs.length ≤ 4 := fun fs hfs => by
    obtain ⟨p, hp, rfl⟩ := List.mem_map.1 hfs
    have h5 := parse_mem nW ws 0 p hw0 hp
    have h6 := h5.2.1.1
    rw [h5.2.2.1] at h6
    unfold fieldsAt
    rw [List.length_map, List.length_take]
    omega
  have hpl : (parse nW ws 0).1.length ≤ 256 := by
    have h6 := parse_sum nW ws 0 (by omega) hw0
    have h7 : ∀ m : List (Nat × Nat), m.length ≤ (m.map fun p => 1 + p.2).sum := fun m => by
      induction m with
      | nil => simp
      | cons a m ih => simp only [List.map_cons, List.sum_cons, List.length_cons]; omega
    have h8 := h7 (parse nW ws 0).1
    have h9 := hW.len
    omega
  have hlay := lay_marks hok (fun x hx => hGW x (List.mem_append_right _ hx)) (refS nW ws rs)
  have hroots := roots_self hok (rs := rs) (fun x hx => hGW x (List.mem_append_left _ hx))
  have hHdOk := headsM_ok hok (refS nW ws rs)
  have hself := headsM_self hok
  have C1 := hide (fun w' (hb : Below w.heap.size w w') => refRead_any w' AW AR nW cW nR cR ws rs (hW.below hb) (hR.below hb) hz)
  have C2 := hide (fun w' (hb : Below w.heap.size w w') => heads_any w' AW AR nW cW nR cR ws (hW.below hb) h1 h3)
  have hrl : (rs.map (turnW (ixOf (parse nW ws 0).1))).length ≤ 8 := by rw [List.length_map, hR.len]; exact h2
  have C3 := hide (fun w' v (h : GraphRd w' (fun _ => True) v (graphOf ws (parse nW ws 0).1) (rs.map (turnW (ixOf (parse nW ws 0).1)))) => reach_any w' v _ _ h (by omega) (by omega) (fun fs hfs => by have := hfl fs hfs; omega))
  have C4 := hide (fun w' v AH nH cH (h : GraphRd w' (fun _ => True) v (graphOf ws (parse nW ws 0).1) (rs.map (turnW (ixOf (parse nW ws 0).1)))) (hH : Rd w' (fun _ => True) 3 AH nH (hcells (headsM ws (parse nW ws 0).1 (refS nW ws rs)))) =>
    refLayG_any w' v AH nH cH _ _ _ h (by rw [headsM_len, hgl]) hHdOk hH (by omega) hrl hfl hvg hvr)
  rw [hlay, hroots] at C4
  have hrk : (reachR (graphOf ws (parse nW ws 0).1) (rs.map (turnW (ixOf (parse nW ws 0).1)))).length ≤ 256 := by have := (reach_ok (gs := graphOf ws (parse nW ws 0).1) (vs := rs.map (turnW (ixOf (parse nW ws 0).1)))).len; omega
  have hmixE : headsM ws (parse nW ws 0).1 (mixS ws (parse nW ws 0).1 (reachR (graphOf ws (parse nW ws 0).1) (rs.map (turnW (ixOf (parse nW ws 0).1)))) (parse nW ws 0).1.length) = headsM ws (parse nW ws 0).1 (refS nW ws rs) :=
    headsM_congr _ _ fun i hi => by unfold mixS refS; rw [if_pos hi]
  have hmix0 : headsL ws (parse nW ws 0).1 = headsM ws (parse nW ws 0).1 (mixS ws (parse nW ws 0).1 (reachR (graphOf ws (parse nW ws 0).1) (rs.map (turnW (ixOf (parse nW ws 0).1)))) 0) := by
    rw [hself]; exact headsM_congr _ _ fun i hi => by unfold mixS; rw [if_neg (by omega)]
  rw [hmix0] at C2
  obtain ⟨S, hS⟩ : ∃ S, refS nW ws rs = S := ⟨_, rfl⟩
  rw [hS] at C4 hmixE ⊢
  obtain ⟨pre, hpre⟩ : ∃ pre, (parse nW ws 0).1 = pre := ⟨_, rfl⟩
  simp only [hpre] at C1 C2 C3 C4 hmixE hpl hrk ⊢
  obtain ⟨vs, hvs⟩ : ∃ vs, rs.map (turnW (ixOf pre)) = vs := ⟨_, rfl⟩
  simp only [hvs] at C1 C2 C3 C4 hmixE hrk ⊢
  obtain ⟨gs, hgs⟩ : ∃ gs, graphOf ws pre = gs := ⟨_, rfl⟩
  simp only [hgs] at C1 C2 C3 C4 hmixE hrk ⊢
  obtain ⟨L, hL⟩ : ∃ L, reachR gs vs = L := ⟨_, rfl⟩
  simp only [hL] at C2 C3 hmixE hrk ⊢
  have HME := hide hmixE
  have hB0 : Below w.heap.size w ((w.alloc (.cells #[.slice AW nW cW, .slice AR nR cR] 55)).alloc (.cells #[.slice none 0 0, .slice none 0 0] 55)) := ((Below.refl _ w).alloc (Nat.le_refl _) _).alloc (by simp) _
  have b1 := (Blk.new w 55 #[.slice AW nW cW, .slice AR nR cR]).alloc (.cells #[.slice none 0 0, .slice none 0 0] 55)
  have b2 := Blk.new (w.alloc (.cells #[.slice AW nW cW, .slice AR nR cR] 55)) 55 #[.slice none 0 0, .slice none 0 0]
  rw [World.size_alloc] at b2
  have HB := hide hB0
  have HA := hide b1
  have HR := hide b2
  clear hlay hroots hHdOk hself hmix0 hmixE hS hpre hvs hgs hL hB0 b1 b2 hok hG hGW hgl hvg hvr hfl hrl hz h1 h2 h3 h4 hw0
  go_enter Try.func44, Try.ntmps44
  go_wp2_with fail
  refine (C1.out _ HB.out).mono ?_
  rintro e w1 ⟨v, rfl, hb1, hG1⟩
  obtain ⟨AO, nO, cO, Ag, ng, cg, obs, rfl, g1, g2, g3⟩ := hG1.ex
  have hA1 := (HA.out.below_ hb1).alloc (.cells #[.slice AO nO cO, .slice Ag ng cg] 52)
  have hR1 := (HR.out.below_ hb1).alloc (.cells #[.slice AO nO cO, .slice Ag ng cg] 52)
  have hV1 := Blk.new w1 52 #[.slice AO nO cO, .slice Ag ng cg]
  have hB1 := HB.out.trans (hb1.mono HB.out.size)
  have hB1' := hB1.alloc hB1.size (.cells #[.slice AO nO cO, .slice Ag ng cg] 52)
  have hG1' : GraphRd (w1.alloc (.cells #[.slice AO nO cO, .slice Ag ng cg] 52)) (fun _ => True) (.agg #[.slice AO nO cO, .slice Ag ng cg]) gs vs := (GraphRd.more hG1 (fun _ _ _ => trivial)).below ((Below.refl _ w1).alloc (Nat.le_refl _) _)
  have hz1 : (w1.alloc (.cells #[.slice AO nO cO, .slice Ag ng cg] 52)).heap.size = w1.heap.size + 1 := by simp
  obtain ⟨v1, v2, v3⟩ := hV1.rules
  obtain ⟨u1, u2, u3⟩ := hA1.rules
  have HB1 := hide hB1'
  have HA1 := hide hA1
  have HR1 := hide hR1
  have HV1 := hide hV1
  have HG1 := hide hG1'
  clear hA1 hR1 hV1 hB1 hB1' hG1 hG1' g1 g2 g3 hb1 HB HA HR C1
  go_wp2_with fail
  refine (C2.out _ HB1.out).mono ?_
  rintro e w2 ⟨AH, nH, cH, rfl, hnH, hP⟩
  have hP0 := hP
  obtain ⟨q1, q2, q3⟩ := (HV1.out.below_ hP.below_).rules
  have HG2 := hide (HG1.out.below hP.below_)
  have hnHl : nH = pre.length := by have := (hP.rd_ 0 rfl).1; rw [hcells_length, headsM_len] at this; omega
  subst hnHl
  have HP := hide hP
  clear v1 v2 v3 u1 u2 u3 hP hP0 C2
  go_wp2_with fail
  refine (C3.out _ _ HG2.out).mono ?_
  rintro e w3 ⟨Al, nl, cl, rfl, hP3⟩
  have hnl : L.length = nl := by have := (hP3.rd_ 0 rfl).1; simpa using this
  have hS3 : Sep No (w1.alloc (.cells #[.slice AO nO cO, .slice Ag ng cg] 52)) w3 [rowI 23 3 AH pre.length cH (hcells (headsM ws pre (mixS ws pre L 0))), rowI 3 1 Al nl cl (ints L)] := HP.out.snocNew hP3.below_ _ (hP3.get 0 rfl) (fun g hg => (hP3.lo 0 rfl g hg).resolve_left (fun h => h))
  have HS3 := hide hS3
  clear q1 q2 q3 HG2 HP C3 hP3 hS3
  go_wp2_with fail
  go_loopw [6] (fun i wr => ∃ k : Nat, k ≤ pre.length ∧ i = .int .i64 k ∧ Sep No (w1.alloc (.cells #[.slice AO nO cO, .slice Ag ng cg] 52)) wr [rowI 23 3 AH pre.length cH (hcells (headsM ws pre (mixS ws pre L k))), rowI 3 1 Al nl cl (ints L)]) (fun i _ => pre.length - (intOf i).toNat)
  case atStart => exact ⟨0, by omega, rfl, HS3.out⟩
  case round =>
    clear HS3
    obtain ⟨k, hk, rfl, hS⟩ := hrel
    by_cases hlt : k < pre.length
    · have C := hide (has_any wr (fun _ => True) Al nl cl L (k : Int) (by omega) (hS.rd_ 1 rfl))
      have hrow : wr.ownsRow 0 23 3 (.slice AH pre.length cH) pre.length (hcells (headsM ws pre (mixS ws pre L k))) := hS.get 0 rfl
      obtain ⟨g, rfl⟩ := own_addr hrow (by omega)
      have hS5 := hS.store 0 (g := g) rfl (k * 3 + 1) (.bool (decide ((k : Int) ∈ L)))
      rw [hcells_set _ _ k (by rw [headsM_len]; exact hlt), headsM_set, mixS_succ] at hS5
      have f1 := hrow.frozenAt (k * 3 + 1)
      have f0 : wr.cell? ⟨g, k * 3 + 1, none⟩ = some (.bool _) := (hrow.cellAt (k * 3 + (0 + 1)) (by omega)).trans (hcells_at _ k (by rw [headsM_len]; exact hlt)).2.1
      have HS5 := hide hS5
      obtain ⟨b, hb⟩ : ∃ b, decide ((k : Int) ∈ L) = b := ⟨_, rfl⟩
      rw [hb] at C HS5
      clear hS hS5 hrow hb
      go_wp2_with fail
      refine C.out.mono ?_
      rintro e w4 ⟨rfl, rfl⟩
      go_wp2_with fail
      go_roundw
      case rel => exact ⟨k + 1, by omega, by go_num, HS5.out⟩
      case measure => simp [intOf]; omega
    · obtain rfl : k = pre.length := by omega
      rw [HME.out] at hS
      have hbb := hS.below_
      obtain ⟨v1, v2, v3⟩ := (HV1.out.below_ hbb).rules
      have v5 : wr.cell? ⟨w1.heap.size, 0, none⟩ = some (.slice AO nO cO) := by rw [v1]; rfl
      have v6 : wr.cell? ⟨w1.heap.size, 1, none⟩ = some (.slice Ag ng cg) := by rw [v1]; rfl
      have C := hide (C4.out wr _ AH pre.length cH (HG1.out.below hbb) (hS.rd_ 0 rfl))
      have HBr := hide (HB1.out.trans (hbb.mono HB1.out.size))
      have HRr := hide (HR1.out.below_ hbb)
      clear hS hbb v1 HG1 HA1 HR1 HV1 C4 HB1
      go_wp2_with fail
      refine C.out.mono ?_
      rintro e w5 ⟨va, rfl, hb5, hAr5⟩
      obtain ⟨X1, m1, e1, X2, m2, e2, rfl, k1, k2⟩ := hAr5
      have hB5 := HBr.out.trans (hb5.mono HBr.out.size)
      have hR5 := HRr.out.below_ hb5
      obtain ⟨y1, y2, y3⟩ := hR5.rules
      clear v2 v3 v5 v6 C
      go_wp2_with fail
      have hF := (hR5.set_ 0 (.slice X1 m1 e1)).set_ 1 (.slice X2 m2 e2)
      have hB6 := (hB5.setCell (p := ⟨w.heap.size + 1, 0, none⟩) (by simp) (.slice X1 m1 e1)).setCell (p := ⟨w.heap.size + 1, 1, none⟩) (by simp) (.slice X2 m2 e2)
      have hc : Chg (fun g => g = w.heap.size + 1) w5 ((w5.setCell ⟨w.heap.size + 1, 0, none⟩ (.slice X1 m1 e1)).setCell ⟨w.heap.size + 1, 1, none⟩ (.slice X2 m2 e2)) := ((Chg.refl (fun g => g = w.heap.size + 1) w5).setCell (p := ⟨w.heap.size + 1, 0, none⟩) (.inl rfl) _).setCell (p := ⟨w.heap.size + 1, 1, none⟩) (.inl rfl) _
      refine bodyPost_ret (v := .agg #[.slice X1 m1 e1, .slice X2 m2 e2]) (by simp [results, Try.results44, go_sem, y1]) rfl ⟨_, rfl, hB6, ?_⟩
      have hs4 := HBr.out.size
      have hr4 := HRr.out.lt
      exact ⟨_, _, _, _, _, _, rfl, (k1.chg hc (fun g h1 h2 => by omega)).more (fun g _ h => by omega), (k2.chg hc (fun g h1 h2 => by omega)).more (fun g _ h => by omega)⟩
end Go.Proofs.Ytpbafmdebflbpaa
