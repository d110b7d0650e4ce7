/- The reference of a memory with young and old objects, plain: what is there in the end; how many remembered fields there are at most. A region that draws its order: loads are taken first, and its last operation, for which all others wait, may write what they read. -/
import Derived.Test.YtjphckfbbiehdaaSGenPlays32
import Derived.Test.YtjphckfbbiehdaaSGenPlays36
import Derived.OrdersHeld
import Derived.StillTail
import Derived.Deep.RegionHeld
set_option linter.unusedSimpArgs false
set_option linter.unusedVariables false
namespace Go.Proofs.Ytjphckfbbiehdaa
open Go.RowKit
def grThereK (r : GrA) (k : Nat) : List (Int × Int) := ((List.range k).filter fun i => !r.gn i).map fun i : Nat => ((i : Int), if r.od i = true then (1 : Int) else 0)
theorem grThereK_succ (r : GrA) (k : Nat) : grThereK r (k + 1) = grThereK r k ++ if r.gn k = true then [] else [((k : Int), if r.od k = true then (1 : Int) else 0)] := by
  unfold grThereK
  rw [List.range_succ, List.filter_append, List.map_append, List.filter_cons, List.filter_nil]
  cases r.gn k <;> simp
theorem grThereK_len (r : GrA) (k : Nat) : (grThereK r k).length ≤ k := by
  unfold grThereK
  rw [List.length_map]
  refine Nat.le_trans (List.length_filter_le _ _) ?_
  rw [List.length_range]; exact Nat.le_refl _
theorem gnStep_mks (room : Nat) (d : DoV) (a : GnA) : (gnStep room d a).2.mks.length ≤ a.mks.length + 1 := by
  have hr : (gnRoom room a).mks.length ≤ a.mks.length := by
    unfold gnRoom
    split
    · exact Nat.zero_le _
    · exact Nat.le_refl _
  unfold gnStep
  split
  · exact Nat.zero_le _
  split
  · exact Nat.zero_le _
  unfold gnDo
  split
  · exact Nat.le_succ _
  unfold gnKst
  split
  · have hN : (gnNew room a d.n.toNat).1.mks.length ≤ a.mks.length + 1 := by
      unfold gnNew
      split
      · dsimp only; omega
      · show (gnRoom room a).mks.length ≤ _; omega
    split
    · exact hN
    · exact hN
  split
  · exact Nat.le_succ _
  split
  · exact Nat.le_succ _
  split
  · split
    · exact Nat.le_succ _
    · show (if _ then insF _ a.mks else a.mks).length ≤ _
      split
      · exact insF_len
      · exact Nat.le_succ _
  split
  · split
    · exact Nat.le_succ _
    · exact Nat.le_succ _
  split
  · exact Nat.le_succ _
  · exact Nat.le_succ _
theorem gnRun_mks (room : Nat) (a : GnA) (ds : List DoV) : (gnRun room ds a).2.mks.length ≤ a.mks.length + ds.length := by
  have key : ∀ r : List DoV, (gnRun room r.reverse a).2.mks.length ≤ a.mks.length + r.reverse.length := by
    intro r
    induction r with
    | nil => exact Nat.le_refl _
    | cons d r ih =>
      rw [List.reverse_cons, gnRun_snoc, List.length_append, List.length_singleton]
      have h := gnStep_mks room d (gnRun room r.reverse a).2
      dsimp only
      omega
  have h := key ds.reverse
  rwa [List.reverse_reverse] at h
theorem thereL_leQ {α : Type} (l : List (Option α)) : (thereL l).length ≤ l.length := by
  unfold thereL thereK
  rw [List.length_map]
  refine Nat.le_trans (List.length_filter_le _ _) ?_
  rw [List.length_range]; exact Nat.le_refl _
theorem gn_small {σ : MSt} (h : MOk σ) (R : Nat) (ds : List DoV) (hn : σ.objs.length ≤ 24) (hd : ds.length ≤ 100) : (gnThere (gnRun R ds (gn0 σ)).2).length ≤ 1000 ∧ (gnMks (gnRun R ds (gn0 σ)).2).length ≤ 1000 := by
  have h1 := (gn_at h R ds hn hd ds.length (Nat.le_refl _)).2
  have h2 := gnRun_mks R (gn0 σ) ds
  rw [List.take_length] at h1
  have h3 : (gn0 σ).mks.length = 0 := rfl
  refine ⟨?_, ?_⟩
  · unfold gnThere
    rw [List.length_map]
    have := thereL_leQ (gnRun R ds (gn0 σ)).2.objs
    omega
  · unfold gnMks
    rw [List.length_map]
    omega
theorem GrSim.there {a : GnA} {r : GrA} (h : GrSim a r) : grThereK r r.old.length = gnThere a := by
  have e0 : ∀ i, (a.objs.getD i none).isSome = (a.fld i).isSome := fun i => by unfold GnA.fld; rw [List.getD_eq_getElem?_getD]
  have ef : (List.range a.objs.length).filter (fun i => !r.gn i) = (List.range a.objs.length).filter fun i => (a.objs.getD i none).isSome :=
    List.filter_congr fun i hi => by
      have hi := List.mem_range.1 hi
      rw [h.gn i hi, e0]
      cases a.fld i <;> rfl
  unfold gnThere grThereK thereL thereK
  rw [List.map_map, h.ol, ef]
  refine List.map_congr_left fun i hi => ?_
  have h2 := (List.mem_filter.1 hi).2
  rw [e0] at h2
  obtain ⟨fs, hf⟩ := Option.isSome_iff_exists.1 h2
  show ((i : Int), _) = ((i : Int), _)
  rw [h.od i fs hf, Int.toNat_natCast]
end Go.Proofs.Ytjphckfbbiehdaa

namespace Go.Proofs.Ytjphckfbbiehdaa
section
variable {P : Program} {ops : Array Oper} {Q : Exit → Act → World → Prop} {md : Region.Mode} {S : World → Prop} {z : Nat}
/-- Whatever order is picked from here on; S holds behind every operation but the one numbered z. -/
def wpAnyZ (P : Program) (md : Region.Mode) (ops : Array Oper) (Q : Exit → Act → World → Prop) (S : World → Prop) (z : Nat) : Nat → Array Bool → Act → World → Prop
  | 0, listed, a, w => Region.ready md ops listed = [] ∧ Q .normal a w
  | fuel + 1, listed, a, w =>
    (Region.ready md ops listed = [] → Q .normal a w) ∧
    ∀ i ∈ Region.ready md ops listed, wpOp P ops Q i (fun a' w' => (i ≠ z → S w') ∧ wpAnyZ P md ops Q S z fuel (listed.setIfInBounds i true) a' w') a w
theorem wpAny_of_z : ∀ (fuel : Nat) (listed : Array Bool) (a : Act) (w : World), wpAnyZ P md ops Q S z fuel listed a w → wpAny P md ops Q fuel listed a w
  | 0, _, _, _, h => h
  | fuel + 1, _, _, _, h => ⟨h.1, fun i hi => wpOp_mono (fun a' w' h' => wpAny_of_z fuel _ a' w' h'.2) (h.2 i hi)⟩
/-- What has come up waits for nothing that has not. -/
def Clo (md : Region.Mode) (ops : Array Oper) (listed : Array Bool) : Prop := ∀ j oj, ops[j]? = some oj → listed.getD j false = true → ∀ e ∈ oj.after, Region.binds md e = true → listed.getD e.on false = true
theorem Clo.start (n : Nat) : Clo md ops (Array.replicate n false) := fun j _ _ h => by rw [getD_replicate_false] at h; cases h
theorem Clo.set {i : Nat} {listed : Array Bool} (h : Clo md ops listed) (hi : i ∈ Region.ready md ops listed) : Clo md ops (listed.setIfInBounds i true) := by
  obtain ⟨_, oi, hoi, hall⟩ := mem_ready.1 hi
  intro j oj hj hl e he hb
  by_cases hij : i = j
  · subst hij
    have : oj = oi := Option.some.inj (hj.symm.trans hoi)
    subst this
    exact getD_set_true (hall e he hb)
  · rw [getD_set_ne false hij] at hl
    exact getD_set_true (h j oj hj hl e he hb)
/-- Number z waits for number i, or for one that does. -/
def waits2 (md : Region.Mode) (ops : Array Oper) (z i : Nat) : Bool := Region.waitsFor md ops z i || (List.range ops.size).any fun j => Region.waitsFor md ops z j && Region.waitsFor md ops j i
theorem waits2_spec {i : Nat} {listed : Array Bool} (hc : Clo md ops listed) (hz : waits2 md ops z i = true) (hr : z ∈ Region.ready md ops listed) : listed.getD i false = true := by
  obtain ⟨_, oz, hoz, hall⟩ := mem_ready.1 hr
  unfold waits2 at hz
  rw [Bool.or_eq_true] at hz
  rcases hz with h | h
  · obtain ⟨o', ho', e, he, hb, hon⟩ := Region.waitsFor_spec h
    have : o' = oz := Option.some.inj (ho'.symm.trans hoz)
    subst this
    rw [← hon]; exact hall e he hb
  · obtain ⟨j, _, hj⟩ := List.any_eq_true.1 h
    rw [Bool.and_eq_true] at hj
    obtain ⟨o', ho', e, he, hb, hon⟩ := Region.waitsFor_spec hj.1
    have : o' = oz := Option.some.inj (ho'.symm.trans hoz)
    subst this
    have h1 := hall e he hb
    rw [hon] at h1
    obtain ⟨oj, hoj, e2, he2, hb2, hon2⟩ := Region.waitsFor_spec hj.2
    rw [← hon2]; exact hc j oj hoj h1 e2 he2 hb2
theorem wpAnyZ_first {i : Nat} {oi : Oper} {v : Value} (hi : ops[i]? = some oi) (hsel : ∀ (j : Nat) (o : Oper) cs b, ops[j]? = some o → o.op ≠ .select cs b)
    (hQ : ∀ c a w, Q (.panic c) (a.put oi.dst v) w → Q (.panic c) a w) (hz : waits2 md ops z i = true) :
    ∀ (fuel : Nat) (listed : Array Bool) (a : Act) (w : World), Clo md ops listed →
      (∀ j oj, ops[j]? = some oj → j ≠ i → listed.getD j true = false → (∀ e ∈ oj.after, Region.binds md e = true → e.on ≠ i) → oi.apart ops oj = true) →
      i ∈ Region.ready md ops listed → YieldsIf P ops S oi v a → S w →
      wpAnyZ P md ops Q S z fuel (listed.setIfInBounds i true) (a.put oi.dst v) w → wpAnyZ P md ops Q S z (fuel + 1) listed a w := by
  intro fuel
  induction fuel with
  | zero =>
    intro listed a w _ _ hr hy hS H
    refine ⟨fun h => (by rw [h] at hr; cases hr), fun j hj => ?_⟩
    by_cases hji : j = i
    · subst hji; exact hy.wpOp hi hS ⟨fun _ => hS, H⟩
    · have := ready_mono hj hji
      rw [H.1] at this
      cases this
  | succ fuel ih =>
    intro listed a w hcl hfree hr hy hS H
    refine ⟨fun h => (by rw [h] at hr; cases hr), fun j hj => ?_⟩
    by_cases hji : j = i
    · subst hji; exact hy.wpOp hi hS ⟨fun _ => hS, H⟩
    · have h1 := H.2 j (ready_mono hj hji)
      obtain ⟨hjun, oj, hoj, hall⟩ := mem_ready.1 hj
      have hnot : ∀ e ∈ oj.after, Region.binds md e = true → e.on ≠ i := fun e he hb heq => by
        have h1 := hall e he hb
        have h0 := (mem_ready.1 hr).1
        rw [heq] at h1
        rcases Nat.lt_or_ge i listed.size with h' | h'
        · simp [h'] at h0 h1; rw [h0] at h1; cases h1
        · simp [Array.getElem?_eq_none h'] at h1
      have hjz : j ≠ z := by
        rintro rfl
        have h1 := waits2_spec hcl hz hj
        have h0 := (mem_ready.1 hr).1
        rcases Nat.lt_or_ge i listed.size with h' | h'
        · simp [h'] at h0 h1; rw [h0] at h1; cases h1
        · simp [Array.getElem?_eq_none h'] at h1
      have h2 := wpOp_putIf hoj (hfree j oj hoj hji hjun hnot) (fun cs b => hsel i oi cs b hi) (fun cs b => hsel j oj cs b hoj) hQ hy h1
      have hfree' : ∀ k ok, ops[k]? = some ok → k ≠ i → (listed.setIfInBounds j true).getD k true = false →
          (∀ e ∈ ok.after, Region.binds md e = true → e.on ≠ i) → oi.apart ops ok = true := fun k ok hk hki hun hno => by
        refine hfree k ok hk hki ?_ hno
        by_cases hjk : j = k
        · subst hjk; exact hjun
        · rw [getD_set_ne true hjk] at hun; exact hun
      refine wpOp_mono (fun a' w' h3 => ⟨h3.2.1, ih (listed.setIfInBounds j true) a' w' (hcl.set hj) hfree' (ready_mono hr (Ne.symm hji)) h3.1 (h3.2.1 hjz) ?_⟩) h2
      rw [Array.setIfInBounds_comm _ _ hji]
      exact h3.2.2
/-- These are taken first, one after the other. -/
def takeB (md : Region.Mode) (ops : Array Oper) (z : Nat) : List Nat → Array Bool → Bool
  | [], _ => true
  | i :: l, listed => (Region.ready md ops listed).contains i && Region.free md ops listed i && waits2 md ops z i && (match ops[i]? with | some o => o.dst.isSome | none => false) && takeB md ops z l (listed.setIfInBounds i true)
def takeL : List Nat → Array Bool → Array Bool
  | [], listed => listed
  | i :: l, listed => takeL l (listed.setIfInBounds i true)
def wpTake (P : Program) (ops : Array Oper) (S : World → Prop) : List Nat → Act → (Act → Prop) → Prop
  | [], a, K => K a
  | i :: l, a, K => ∃ oi v, ops[i]? = some oi ∧ YieldsIf P ops S oi v a ∧ wpTake P ops S l (a.put oi.dst v) K
theorem wpTake_cons {i : Nat} {l : List Nat} {a : Act} {K : Act → Prop} {oi : Oper} {v : Value} (hi : ops[i]? = some oi) (hw : Region.wanted oi (yielded ops a.tmps) = true) (hy : ∀ w, S w → (execOp a.eval oi).run P w = .ok (.value v) w) (h : wpTake P ops S l (a.put oi.dst v) K) : wpTake P ops S (i :: l) a K :=
  ⟨oi, v, hi, .inl ⟨hw, hy⟩, h⟩
theorem wpTake_nil {a : Act} {K : Act → Prop} (h : K a) : wpTake P ops S [] a K := h
theorem wpAnyZ_takes (hs : Region.noSelect ops = true) (hQ : ∀ c a (d : Tmp) v w, Q (.panic c) (a.put (some d) v) w → Q (.panic c) a w) {w : World} (hS : S w) {fuel : Nat} : ∀ (l : List Nat) (listed : Array Bool) (a : Act), Clo md ops listed →
    takeB md ops z l listed = true → wpTake P ops S l a (fun a' => wpAnyZ P md ops Q S z fuel (takeL l listed) a' w) → wpAnyZ P md ops Q S z (fuel + l.length) listed a w
  | [], _, _, _, _, h => h
  | i :: l, listed, a, hcl, hB, h => by
    obtain ⟨oi, v, hi, hy, h2⟩ := h
    simp only [takeB, Bool.and_eq_true, decide_eq_true_eq] at hB
    obtain ⟨⟨⟨⟨h3, h4⟩, h5⟩, h8⟩, h7⟩ := hB
    have hr : i ∈ Region.ready md ops listed := by simpa using h3
    rw [hi] at h8
    obtain ⟨d, hd⟩ := Option.isSome_iff_exists.1 h8
    exact wpAnyZ_first hi (Region.noSelect_spec hs) (fun c a w => by rw [hd]; exact hQ c a d _ w) h5 (fuel + l.length) listed a w hcl (Region.free_spec hi h4) hr hy hS (wpAnyZ_takes hs hQ hS l _ _ (hcl.set hr) h7 h2)
theorem wp_region_z {id : Nat} {a : Act} {w : World} (z : Nat) (S : World → Prop) (hm : P.follows .mixedOrders = true)
    (h : wpAnyZ P .any ops Q S z ops.size (Array.replicate ops.size false) a w.drew) : (Code.region id ops true).wp P Q a w :=
  wp_region_any hm (wpAny_of_z _ _ _ _ h)
/-- One alone may come up. -/
theorem wpAnyZ_one {i : Nat} {o : Oper} {fuel : Nat} {listed : Array Bool} {a : Act} {w : World} (hr : Region.ready md ops listed = [i]) (ho : ops[i]? = some o)
    (h : ∀ K' : Act → World → Prop, Shut (∀ a w, (i ≠ z → S w) → wpAnyZ P md ops Q S z fuel (listed.setIfInBounds i true) a w → K' a w) → if Region.wanted o (yielded ops a.tmps) = true then Oper.wp P o a w K' Q else K' (a.put o.dst undef) w) :
    wpAnyZ P md ops Q S z (fuel + 1) listed a w := by
  refine ⟨fun h0 => (by rw [hr] at h0; cases h0), fun j hj => ?_⟩
  rw [hr] at hj
  obtain rfl : j = i := by simpa using hj
  exact wpOp_step ho (fun K' hK => h K' (fun a w hS hW => hK a w ⟨hS, hW⟩))
theorem wpAnyZ_done {fuel : Nat} {listed : Array Bool} {a : Act} {w : World} (hr : Region.ready md ops listed = []) (h : Q .normal a w) : wpAnyZ P md ops Q S z fuel listed a w := by
  cases fuel with
  | zero => exact ⟨hr, h⟩
  | succ n => exact ⟨fun _ => h, by rw [hr]; simp⟩
end
end Go.Proofs.Ytjphckfbbiehdaa
