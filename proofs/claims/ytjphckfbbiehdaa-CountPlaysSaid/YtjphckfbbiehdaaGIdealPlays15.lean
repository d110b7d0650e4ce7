/- What the reference's Reach tells: a list that is closed under references. A graph that may be: what its check says. The reference: a graph in its own order, where there may be more objects than a graph that comes in may have. -/
import Derived.Test.YtjphckfbbiehdaaGIdealPlays12
import Derived.Test.YtjphckfbbiehdaaGIdealPlays14
import Derived.Test.YtjphckfbbiehdaaGIdealPlays2
import Derived.Deep.RegionHeld3
import Derived.Test.YtjphckfbbiehdaaGIdealPlays3
import Derived.Test.YtjphckfbbiehdaaGIdealPlays4
set_option linter.unusedSimpArgs false
set_option linter.unusedVariables false
namespace Go.Proofs.Ytjphckfbbiehdaa

theorem reach_ok {gs : List (List Val)} {vs : List Val} : OrdOk gs.length (reachR gs vs) := by
  refine ⟨?_, fun x hx => ?_⟩
  · unfold reachR
    rw [List.nodup_iff_pairwise_ne, List.pairwise_map]
    exact (List.Pairwise.filter _ List.nodup_range).imp (fun h e => h (by omega))
  · unfold reachR at hx
    obtain ⟨i, hi, rfl⟩ := List.mem_map.1 hx
    have := List.mem_range.1 (List.mem_filter.1 hi).1
    omega
theorem reach_closed {gs : List (List Val)} {vs : List Val} (hg : ∀ fs ∈ gs, ValsOk gs.length fs) (hv : ValsOk gs.length vs) : (∀ x ∈ reachR gs vs, ∀ v ∈ fieldsI gs x, v.1 = true → v.2 ∈ reachR gs vs) ∧ (∀ v ∈ vs, v.1 = true → v.2 ∈ reachR gs vs) := by
  refine ⟨fun x hx v hv1 h1 => ?_, fun v hv1 h1 => ?_⟩
  · obtain ⟨k, hk⟩ := (mem_reachR hg hv x).1 hx
    obtain ⟨b, y⟩ := v
    dsimp only at h1
    subst h1
    exact (mem_reachR hg hv y).2 ⟨k + 1, .step _ _ _ hk hv1⟩
  · obtain ⟨b, y⟩ := v
    dsimp only at h1
    subst h1
    exact (mem_reachR hg hv y).2 ⟨0, .root _ hv1⟩
/-- The list, by whom it has. -/
theorem reach_list {gs : List (List Val)} {vs : List Val} (S : Nat → Bool) (h : ∀ i, i < gs.length → S i = decide ((i : Int) ∈ reachR gs vs)) : reachR gs vs = ((List.range gs.length).filter S).map fun (i : Nat) => (i : Int) := by
  unfold reachR
  congr 1
  refine List.filter_congr fun i hi => ?_
  have hi' := List.mem_range.1 hi
  rw [h i hi']
  rw [decide_eq_decide]
  constructor
  · intro h1
    unfold reachR
    exact List.mem_map.2 ⟨i, List.mem_filter.2 ⟨hi, by simpa using h1⟩, rfl⟩
  · intro h1
    unfold reachR at h1
    obtain ⟨j, hj, hji⟩ := List.mem_map.1 h1
    obtain rfl : j = i := by omega
    simpa using (List.mem_filter.1 hj).2
end Go.Proofs.Ytjphckfbbiehdaa

namespace Go.Proofs.Ytjphckfbbiehdaa
open Go.RowKit

structure GOk (nO nR : Nat) (obs : List Ob) (roots : List Val) : Prop where
  nO_ : nO ≤ 24
  nR_ : nR ≤ 8
  fl : ∀ o ∈ obs, o.n ≤ 4
  len : (obs.map Ob.fields).length = nO
  vg : ∀ fs ∈ obs.map Ob.fields, ValsOk (obs.map Ob.fields).length fs
  vr : ValsOk (obs.map Ob.fields).length roots
  fs : ∀ fs ∈ obs.map Ob.fields, fs.length ≤ 4
theorem gok_of {w : World} {D : Nat → Prop} {AO : Option Addr} {nO nR : Nat} {obs : List Ob} {roots : List Val} (hO : ObsRd w D AO nO obs) (h : gcheck nO nR obs roots = 0) : GOk nO nR obs roots := by
  unfold gcheck at h
  split at h
  · omega
  rename_i h1
  split at h
  · omega
  rename_i h2
  have h3 : obs.any large = false := by
    cases h4 : obs.any large with
    | false => rfl
    | true => exact absurd (Or.inr (Or.inr h4)) h1
  have hfl : ∀ o ∈ obs, o.n ≤ 4 := fun o ho => by
    have h5 := List.any_eq_false.1 h3 o ho
    unfold large at h5
    simp at h5
    omega
  have hlen : (obs.map Ob.fields).length = nO := by rw [List.length_map]; exact hO.len
  have h4 : ∀ v ∈ allVals obs roots, v.1 = true → 0 ≤ v.2 ∧ v.2 < ((obs.map Ob.fields).length : Int) := fun v hv hv1 => by
    have h5 : (allVals obs roots).any (badArg nO) = false := by
      cases h6 : (allVals obs roots).any (badArg nO) with
      | false => rfl
      | true => exact absurd h6 h2
    have h6 := List.any_eq_false.1 h5 v hv
    unfold badArg at h6
    rw [hv1] at h6
    rw [hlen]
    simp at h6
    omega
  refine ⟨by omega, by omega, hfl, hlen, fun fs hfs v hv => ?_, fun v hv => h4 v (List.mem_append_left _ hv), fun fs hfs => ?_⟩
  · obtain ⟨o, ho, rfl⟩ := List.mem_map.1 hfs
    exact h4 v (List.mem_append_right _ (List.mem_flatMap.2 ⟨o, ho, hv⟩))
  · obtain ⟨o, ho, rfl⟩ := List.mem_map.1 hfs
    have := hO.flen ho
    have := hfl o ho
    omega
/-- graph.Found of a graph that may be. -/
theorem found_ok (w : World) (AO AR : Option Addr) (nO cO nR cR : Nat) (obs : List Ob) (roots : List Val) (hO : ObsRd w (fun _ => True) AO nO obs) (hR : Rd w (fun _ => True) 2 AR nR (vals roots)) (h : GOk nO nR obs roots) :
    Calls Try.prog 110 #[.agg #[.slice AO nO cO, .slice AR nR cR]] w fun e w' => ∃ A n c A2 c2, e = .returned (.tuple #[.slice A n c, .slice A2 nO c2]) ∧
      Sep No w w' [rowI 3 1 A n c (ints (order (obs.map Ob.fields) roots)), rowI 3 1 A2 nO c2 (ints (distR (obs.map Ob.fields) roots))] := by
  obtain ⟨e1, e2⟩ := fndAll_eq h.vg h.vr
  have := found_any w AO AR nO cO nR cR obs roots (obs.map Ob.fields) rfl hO hR (by have := h.nO_; omega) (by have := h.nR_; omega) (fun o ho => by have := h.fl o ho; omega) h.vg h.vr
  rw [e1, e2] at this
  exact this
theorem graphRd_of {w : World} {D : Nat → Prop} {AO AR : Option Addr} {nO cO nR cR : Nat} {obs : List Ob} {roots : List Val} (hO : ObsRd w D AO nO obs) (hR : Rd w D 2 AR nR (vals roots)) : GraphRd w D (.agg #[.slice AO nO cO, .slice AR nR cR]) (obs.map Ob.fields) roots := ⟨AO, nO, cO, AR, nR, cR, obs, rfl, hO, rfl, hR⟩
theorem roots_len {w : World} {D : Nat → Prop} {AR : Option Addr} {nR : Nat} {roots : List Val} (hR : Rd w D 2 AR nR (vals roots)) : roots.length = nR := by have := hR.1; rw [vals_length] at this; omega

/-! ### Sorting what is found. -/
theorem pair_le (l : List Int) (h : l.Pairwise (· < ·)) : l.Pairwise (fun a b => decide (a ≤ b) = true) := h.imp fun h => by simp; omega
theorem reach_rise (gs : List (List Val)) (vs : List Val) : (reachR gs vs).Pairwise (· < ·) := by
  unfold reachR
  rw [List.pairwise_map]
  exact (List.Pairwise.filter _ List.pairwise_lt_range).imp (fun h => by omega)
theorem sort_uniq {l m : List Int} (hl : l.Nodup) (hm : m.Pairwise (· < ·)) (h : ∀ x, x ∈ l ↔ x ∈ m) : (l.mergeSort fun x y => decide (x ≤ y)) = m := by
  have hmn : m.Nodup := hm.imp fun h e => by subst e; omega
  have hp : l.Perm m := by
    rw [List.perm_iff_count]
    intro x
    by_cases hx : x ∈ l
    · rw [hl.count, hmn.count, if_pos hx, if_pos ((h x).1 hx)]
    · rw [hl.count, hmn.count, if_neg hx, if_neg (fun h2 => hx ((h x).2 h2))]
  have hs : (l.mergeSort fun x y => decide (x ≤ y)).Perm m := (List.mergeSort_perm l _).trans hp
  refine hs.eq_of_pairwise (le := fun a b => decide (a ≤ b) = true) ?_ ?_ ?_
  · intro a b _ _ h1 h2
    simp at h1 h2
    omega
  · exact List.pairwise_mergeSort (fun a b c h1 h2 => by simp at h1 h2 ⊢; omega) (fun a b => by simp; omega) l
  · exact pair_le m hm
theorem sort_order {gs : List (List Val)} {vs : List Val} (hg : ∀ fs ∈ gs, ValsOk gs.length fs) (hv : ValsOk gs.length vs) : ((order gs vs).mergeSort fun x y => decide (x ≤ y)) = reachR gs vs :=
  sort_uniq (order_ok hg hv).nodup (reach_rise gs vs) fun x => by rw [mem_order hg hv, mem_reachR hg hv]
end Go.Proofs.Ytjphckfbbiehdaa

namespace Go.Proofs.Ytjphckfbbiehdaa
open Go.RowKit

structure GOkW (nO nR : Nat) (obs : List Ob) (roots : List Val) : Prop where
  nO_ : nO ≤ 600
  nR_ : nR ≤ 8
  fl : ∀ o ∈ obs, o.n ≤ 4
  len : (obs.map Ob.fields).length = nO
  vg : ∀ fs ∈ obs.map Ob.fields, ValsOk (obs.map Ob.fields).length fs
  vr : ValsOk (obs.map Ob.fields).length roots
  fs : ∀ fs ∈ obs.map Ob.fields, fs.length ≤ 4

set_option maxRecDepth 100000 in
set_option maxHeartbeats 4000000 in
theorem refCanonW_any (w : World) (AO AR : Option Addr) (nO cO nR cR : Nat) (obs : List Ob) (roots : List Val) (hO : ObsRd w (fun _ => True) AO nO obs) (hR : Rd w (fun _ => True) 2 AR nR (vals roots)) (hG : GOkW nO nR obs roots) :
    Calls Try.prog 136 #[.agg #[.slice AO nO cO, .slice AR nR cR]] w fun e w' => ∃ v', e = .returned v' ∧ Below w.heap.size w w' ∧ GraphRd w' (fun g => w.heap.size ≤ g) v' (renumF (obs.map Ob.fields) (order (obs.map Ob.fields) roots)) (roots.map (turnL (order (obs.map Ob.fields) roots))) := by
  have hS0 := ((Sep.nil No w).blkAt 27 #[.slice AO nO cO, .slice AR nR cR] rfl).blkAt 27 #[.slice none 0 0, .slice none 0 0] (g := w.heap.size + 1) (by simp)
  obtain ⟨a1, a2, a3, a4⟩ := hS0.rules 0 (g := w.heap.size) (t := 27) rfl
  have a5 := (a1 0).trans (show _ = some (.slice AO nO cO) from rfl)
  have a6 := (a1 1).trans (show _ = some (.slice AR nR cR) from rfl)
  have hOK := order_ok hG.vg hG.vr
  have hGR := graphRd_of hO (cO := cO) hR (cR := cR)
  have C1 := hide (fun w' (hb : Below w.heap.size w w') => order_any w' _ _ _ (hGR.below hb) (by have := hG.len; have := hG.nO_; omega) (by have := roots_len hR; have := hG.nR_; omega) (fun fs hfs => by have := hG.fs fs hfs; omega) hG.vr hG.vg)
  have C3 := hide (fun (w' : World) (hb : Below w.heap.size w w') (A : Option Addr) (n c : Nat) (hl : Rd w' (fun _ => True) 1 A n (ints (order (obs.map Ob.fields) roots))) =>
    renumber_any w' _ A n c _ _ _ (hGR.below hb) hl hOK.rng (by have := hG.len; have := hG.nO_; omega) (by have h1 : (order (obs.map Ob.fields) roots).length = n := (by have := hl.1; simpa using this); have := hOK.len; have := hG.len; have := hG.nO_; omega) (by have := roots_len hR; have := hG.nR_; omega) (fun fs hfs => by have := hG.fs fs hfs; omega))
  obtain ⟨L, hL⟩ : ∃ L, order (obs.map Ob.fields) roots = L := ⟨_, rfl⟩
  simp only [hL] at C1 C3 ⊢
  generalize renumF (obs.map Ob.fields) L = FF at C3 ⊢
  generalize roots.map (turnL L) = RR at C3 ⊢
  have HS0 := hide hS0
  clear hS0 a1 a4 hG hOK hGR hL
  go_enter Try.func136, Try.ntmps136
  go_wp2_with fail
  obtain ⟨w0, hw0⟩ : ∃ x, (w.alloc (.cells #[.slice AO nO cO, .slice AR nR cR] 27)).alloc (.cells #[.slice none 0 0, .slice none 0 0] 27) = x := ⟨_, rfl⟩
  rw [hw0] at a2 a3 a5 a6 HS0 ⊢
  clear hw0
  have C2 := hide (C1.out w0.drew HS0.out.drew.below_)
  go_region_held3 (fun w' => w'.cell? ⟨w.heap.size, 0, none⟩ = some (.slice AO nO cO) ∧ w'.cell? ⟨w.heap.size, 1, none⟩ = some (.slice AR nR cR)) (go_keep)
    (first
      | (go_at_call 175; (with_reducible refine C2.out.mono ?_); rintro e w5 ⟨A, n, c, rfl, hP⟩; have hS5 := HS0.out.drew.below hP.below_; have k1 : w5.cell? ⟨w.heap.size, 0, none⟩ = some (.slice AO nO cO) := ((hS5.rules 0 (g := w.heap.size) (t := 27) rfl).1 0).trans rfl; have k2 : w5.cell? ⟨w.heap.size, 1, none⟩ = some (.slice AR nR cR) := ((hS5.rules 0 (g := w.heap.size) (t := 27) rfl).1 1).trans rfl; have C4 := hide (C3.out w5 hS5.below_ A n c (hP.rd_ 0 rfl)); have HS5 := hide hS5; clear hS5 hP)
      | (go_at_call 176; (with_reducible refine C4.out.mono ?_); rintro e w6 ⟨v', rfl, hb6, hg6⟩; obtain ⟨A5, n5, c5, A6, n6, c6, obs', rfl, hO5, hF5, hR6⟩ := hg6.ex; have hS6 := HS5.out.below hb6; have k3 : w6.cell? ⟨w.heap.size, 0, none⟩ = some (.slice AO nO cO) := ((hS6.rules 0 (g := w.heap.size) (t := 27) rfl).1 0).trans rfl; have k4 : w6.cell? ⟨w.heap.size, 1, none⟩ = some (.slice AR nR cR) := ((hS6.rules 0 (g := w.heap.size) (t := 27) rfl).1 1).trans rfl; obtain ⟨x1, x2, x3, x4⟩ := hS6.rules 1 (g := w.heap.size + 1) (t := 27) rfl; have hsz5 : w.heap.size + 1 < w5.heap.size := HS5.out.hi 1 rfl _ rfl; have HG6 := hide hg6; have HS6 := hide hS6; clear hS6 hg6 hb6 hO5 hF5 hR6 x4))
  all_goals
    go_wp2_with fail
    have hF := (HS6.out.set_ 1 (g := w.heap.size + 1) (t := 27) rfl 0 (.slice A5 n5 c5)).set_ 1 (g := w.heap.size + 1) (t := 27) rfl 1 (.slice A6 n6 c6)
    refine bodyPost_ret (v := .agg #[.slice A5 n5 c5, .slice A6 n6 c6]) (by simp [results, Try.results136, go_sem, x1]) rfl ⟨_, rfl, hF.below_, ?_⟩
    have hc : Chg (fun g => g = w.heap.size + 1) w6 ((w6.setCell ⟨w.heap.size + 1, 0, none⟩ (.slice A5 n5 c5)).setCell ⟨w.heap.size + 1, 1, none⟩ (.slice A6 n6 c6)) := ((Chg.refl (fun g => g = w.heap.size + 1) w6).setCell (p := ⟨w.heap.size + 1, 0, none⟩) (.inl rfl) _).setCell (p := ⟨w.heap.size + 1, 1, none⟩) (.inl rfl) _
    obtain ⟨B5, m5, d5, B6, m6, d6, obs2, he, hO5, hF5, hR6⟩ := HG6.out.ex
    exact ⟨B5, m5, d5, B6, m6, d6, obs2, he, (hO5.chg hc (fun g hg hd => by subst hg; omega)).more (fun k _ hk => by omega), hF5, (hR6.chg hc (fun g hg hd => by subst hg; omega)).more (fun k _ hk => by omega)⟩

end Go.Proofs.Ytjphckfbbiehdaa
