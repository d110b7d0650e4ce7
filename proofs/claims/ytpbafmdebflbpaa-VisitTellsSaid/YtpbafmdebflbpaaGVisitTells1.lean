/- Visits: what holds of one who climbs; the plain part. Visits: climber.climb. Visits: what a walk comes to is what can be come to; the plain part. -/
import Derived.Test.YtpbafmdebflbpaaGVisitTells0
import Derived.Test.YtpbafmdebflbpaaGMarkTells19
import Derived.Deep.LoopGhost
import Derived.Deep.DeepCutAuto
import Derived.Deep.RegionLaw
import Derived.Test.YtpbafmdebflbpaaGSlideTells0
set_option linter.unusedSimpArgs false
set_option linter.unusedVariables false
namespace Go.Proofs.Ytpbafmdebflbpaa
open Go.RowKit Go.Maps

def sumD : Nat → (Nat → Nat) → Nat
  | 0, _ => 0
  | n + 1, d => sumD n d + d n
def incD (d : Nat → Nat) (a : Nat) : Nat → Nat := fun k => if k = a then d a + 1 else d k
theorem incD_self (d : Nat → Nat) (a : Nat) : incD d a a = d a + 1 := if_pos rfl
theorem incD_other {d : Nat → Nat} {a k : Nat} (h : k ≠ a) : incD d a k = d k := if_neg h
theorem sumD_congr {n : Nat} {d e : Nat → Nat} (h : ∀ i, i < n → d i = e i) : sumD n d = sumD n e := by
  induction n with
  | zero => rfl
  | succ n ih => unfold sumD; rw [ih (fun i hi => h i (by omega)), h n (by omega)]
theorem sumD_inc {n a : Nat} (d : Nat → Nat) (h : a < n) : sumD n (incD d a) = sumD n d + 1 := by
  induction n with
  | zero => omega
  | succ n ih =>
    unfold sumD
    by_cases e : a = n
    · subst e
      rw [incD_self, sumD_congr (d := incD d a) (e := d) (fun i hi => incD_other (by omega))]
      omega
    · rw [ih (by omega), incD_other (fun h => e h.symm)]
      omega
theorem sumD_le {nW : Nat} {ws : List Int} (hok : ArnOk nW ws) {d : Nat → Nat} (h : ∀ i, i < (parse nW ws 0).1.length → d i ≤ lenN (parse nW ws 0).1 i) : sumD (parse nW ws 0).1.length d ≤ nW := by
  have key : ∀ k, k ≤ (parse nW ws 0).1.length → sumD k d ≤ (((parse nW ws 0).1.take k).map fun p => 1 + p.2).sum := by
    intro k
    induction k with
    | zero => intro _; simp [sumD]
    | succ k ih =>
      intro hk
      have h1 := ih (by omega)
      have h2 := h k (by omega)
      have e2 : (parse nW ws 0).1[k].2 = lenN (parse nW ws 0).1 k := by unfold lenN; rw [List.getD_eq_getElem?_getD, List.getElem?_eq_getElem (by omega)]; rfl
      rw [List.take_succ_eq_append_getElem (by omega), List.map_append, List.sum_append]
      simp only [List.map_cons, List.map_nil, List.sum_cons, List.sum_nil]
      unfold sumD
      omega
  have h1 := key _ (Nat.le_refl _)
  rw [List.take_length] at h1
  have h2 := parse_sum nW ws 0 (by omega) hok.pos
  have h3 := hok.len
  omega
theorem OrdOk.snoc2 {n : Nat} {l : List Int} (h : OrdOk n l) {x : Int} (hx : x ∉ l) (h0 : 0 ≤ x ∧ x < (n : Int)) : OrdOk n (l ++ [x]) := by
  have := h.seen1 (v := (true, x)) (fun _ => h0)
  rw [seen1_yes l x hx] at this
  exact this
theorem drop_vals {ws : List Int} {pre : List (Nat × Nat)} {a j : Nat} {x : Int} (h : (fldN ws pre a)[j]? = some x) : (valsN ws pre a).drop j = turnW (ixOf pre) x :: (valsN ws pre a).drop (j + 1) := by
  obtain ⟨h1, h2⟩ := List.getElem?_eq_some_iff.1 h
  have h3 : j < (valsN ws pre a).length := by unfold valsN; rw [List.length_map]; exact h1
  rw [List.drop_eq_getElem_cons h3]
  congr 1
  have h4 : (valsN ws pre a)[j] = turnW (ixOf pre) (fldN ws pre a)[j] := by simp [valsN]
  rw [h4, h2]

section
variable {nW : Nat} {ws : List Int}
/-- What holds between climbs. -/
structure VSt (nW : Nat) (ws : List Int) (d : Nat → Nat) (D : DataW Unit) (nn : Nat) (l : List Int) : Prop where
  dn : DnOk (parse nW ws 0).1 D d
  dle : ∀ i, i < (parse nW ws 0).1.length → d i ≤ lenN (parse nW ws 0).1 i
  d0 : ∀ i, i < (parse nW ws 0).1.length → (i : Int) ∉ l → d i = 0
  ord : OrdOk (parse nW ws 0).1.length l
  nnb : nn ≤ sumD (parse nW ws 0).1.length d
/-- What holds of one who stands at a, behind P. -/
structure VIn (nW : Nat) (ws : List Int) (R : List Int) (P : List Nat) (a : Nat) (d : Nat → Nat) (D : DataW Unit) (nn : Nat) (l : List Int) : Prop where
  st : VSt nW ws d D nn l
  an : a < (parse nW ws 0).1.length
  aP : a ∉ P
  link : Linked ws (parse nW ws 0).1 d P a
  al : (a : Int) ∈ l
  Pl : ∀ p ∈ P, (p : Int) ∈ l
  cont : walkN (graphOf ws (parse nW ws 0).1) ((valsN ws (parse nW ws 0).1 a).drop (d a) :: restN ws (parse nW ws 0).1 d P) l = R
def vMeas (nW : Nat) (ws : List Int) (P : List Nat) (a : Nat) (d : Nat → Nat) (l : List Int) : Nat := wkM (graphOf ws (parse nW ws 0).1) ((valsN ws (parse nW ws 0).1 a).drop (d a) :: restN ws (parse nW ws 0).1 d P) l
theorem vals_graph {i : Nat} (hi : i < (parse nW ws 0).1.length) : fieldsI (graphOf ws (parse nW ws 0).1) (i : Int) = valsN ws (parse nW ws 0).1 i := by
  rw [fieldsI_graph (by omega) (by omega)]; rfl
theorem graph_len : (graphOf ws (parse nW ws 0).1).length = (parse nW ws 0).1.length := by unfold graphOf; rw [List.length_map]
theorem graph_ok (hgf : ∀ x ∈ fieldsOf ws (parse nW ws 0).1, GoodW (parse nW ws 0).1 x) : ∀ fs ∈ graphOf ws (parse nW ws 0).1, ValsOk (graphOf ws (parse nW ws 0).1).length fs := by
  rw [graph_len]
  intro fs hfs
  obtain ⟨p, hp, rfl⟩ := List.mem_map.1 hfs
  exact good_vals fun x hx => hgf x (List.mem_flatMap.2 ⟨p, hp, hx⟩)
theorem vals_ok (hgf : ∀ x ∈ fieldsOf ws (parse nW ws 0).1, GoodW (parse nW ws 0).1 x) {i : Nat} (hi : i < (parse nW ws 0).1.length) : ValsOk (graphOf ws (parse nW ws 0).1).length (valsN ws (parse nW ws 0).1 i) := by
  rw [← vals_graph hi]
  exact fieldsI_ok (graph_ok hgf) _
theorem Linked.lt {d : Nat → Nat} : ∀ {P : List Nat} {a : Nat}, Linked ws (parse nW ws 0).1 d P a → ∀ p ∈ P, p < (parse nW ws 0).1.length
  | [], _, _, p, hp => by simp at hp
  | q :: P, a, ⟨h1, _, _, _, h5⟩, p, hp => by
    rcases List.mem_cons.1 hp with rfl | hp
    · exact h1
    · exact h5.lt p hp
theorem kOk (hgf : ∀ x ∈ fieldsOf ws (parse nW ws 0).1, GoodW (parse nW ws 0).1 x) {R l : List Int} {P : List Nat} {a nn : Nat} {d : Nat → Nat} {D : DataW Unit} (h : VIn nW ws R P a d D nn l) : KOk (graphOf ws (parse nW ws 0).1).length ((valsN ws (parse nW ws 0).1 a).drop (d a) :: restN ws (parse nW ws 0).1 d P) := by
  intro vs hvs
  rcases List.mem_cons.1 hvs with rfl | hvs
  · exact fun v hv => vals_ok hgf h.an v (List.mem_of_mem_drop hv)
  · obtain ⟨p, hp, rfl⟩ := List.mem_map.1 hvs
    exact fun v hv => vals_ok hgf (h.link.lt p hp) v (List.mem_of_mem_drop hv)
variable {R l : List Int} {P : List Nat} {a nn : Nat} {d : Nat → Nat} {D : DataW Unit} {x : Int}
theorem VSt.put (h : VSt nW ws d D nn l) {i : Nat} (hi : i < (parse nW ws 0).1.length) (hl : d i < lenN (parse nW ws 0).1 i) (hil : (i : Int) ∈ l) : VSt nW ws (incD d i) (D.put (.int .i64 (plcN (parse nW ws 0).1 i)) (.lit (.int .i64 ((d i + 1 : Nat) : Int)))) (nn + 1) l := by
  refine ⟨h.dn.put hi (d i + 1), fun k hk => ?_, fun k hk hkl => ?_, h.ord, ?_⟩
  · by_cases e : k = i
    · subst e; rw [incD_self]; omega
    · rw [incD_other e]; exact h.dle k hk
  · rw [incD_other (by rintro rfl; exact hkl hil)]; exact h.d0 k hk hkl
  · rw [sumD_inc d hi]; have := h.nnb; omega
/-- A field that leads to nothing new. -/
theorem VIn.skip (hgf : ∀ x ∈ fieldsOf ws (parse nW ws 0).1, GoodW (parse nW ws 0).1 x) (h : VIn nW ws R P a d D nn l) (hx : (fldN ws (parse nW ws 0).1 a)[d a]? = some x) (hl : d a < lenN (parse nW ws 0).1 a) (hc : unR x = false ∨ (ixOf (parse nW ws 0).1 (unA x) : Int) ∈ l) :
    VIn nW ws R P a (incD d a) (D.put (.int .i64 (plcN (parse nW ws 0).1 a)) (.lit (.int .i64 ((d a + 1 : Nat) : Int)))) (nn + 1) l := by
  have hne : ∀ p ∈ P, d p = incD d a p := fun p hp => (incD_other (by rintro rfl; exact h.aP hp)).symm
  have hk := kOk hgf h
  have hcont := h.cont
  rw [drop_vals hx] at hk hcont
  rw [walkN_skip (graph_ok hgf) hk (by
    rintro ⟨h1, h2⟩
    rcases hc with hc | hc
    · have : unR x = true := h1
      rw [hc] at this; cases this
    · have hr : unR x = true := h1
      unfold turnW at h2
      rw [hr] at h2
      exact h2 hc)] at hcont
  refine ⟨h.st.put h.an hl h.al, h.an, h.aP, h.link.congr hne, h.al, h.Pl, ?_⟩
  rw [incD_self, ← restN_congr hne]
  exact hcont
theorem VIn.end_ (h : VIn nW ws R P a d D nn l) (hl : ¬ d a < lenN (parse nW ws 0).1 a) (hok : ArnOk nW ws) : walkN (graphOf ws (parse nW ws 0).1) (restN ws (parse nW ws 0).1 d P) l = R := by
  have h1 := h.cont
  rw [List.drop_of_length_le (by unfold valsN; rw [List.length_map, hok.fld h.an]; omega), walkN_pop] at h1
  exact h1
/-- Down. -/
theorem VIn.down (hgf : ∀ x ∈ fieldsOf ws (parse nW ws 0).1, GoodW (parse nW ws 0).1 x) (h : VIn nW ws R P a d D nn l) (hx : (fldN ws (parse nW ws 0).1 a)[d a]? = some x) (hl : d a < lenN (parse nW ws 0).1 a) (hg : GoodW (parse nW ws 0).1 x) (hr : unR x = true) (hc : (ixOf (parse nW ws 0).1 (unA x) : Int) ∉ l) :
    VIn nW ws R (a :: P) (ixOf (parse nW ws 0).1 (unA x)) d D nn (l ++ [(ixOf (parse nW ws 0).1 (unA x) : Int)]) ∧ vMeas nW ws (a :: P) (ixOf (parse nW ws 0).1 (unA x)) d (l ++ [(ixOf (parse nW ws 0).1 (unA x) : Int)]) < vMeas nW ws P a d l := by
  obtain ⟨r1, r2, r3, r4, r5⟩ := hg.ref hr
  obtain ⟨r, hrr⟩ : ∃ r, ixOf (parse nW ws 0).1 (unA x) = r := ⟨_, rfl⟩
  rw [hrr] at r5 r4 hc ⊢
  have ht : turnW (ixOf (parse nW ws 0).1) x = (true, (r : Int)) := by unfold turnW; rw [hr, ← hrr]; rfl
  have hx2 : x = 2 * (plcN (parse nW ws 0).1 r : Int) := by
    have : (plc (parse nW ws 0).1 (r : Int) : Int) = (plcN (parse nW ws 0).1 r : Int) := rfl
    have := hg.lo
    omega
  have hk := kOk hgf h
  have hcont := h.cont
  have hdr := h.st.d0 r r5 hc
  have e0 : (valsN ws (parse nW ws 0).1 r).drop (d r) = fieldsI (graphOf ws (parse nW ws 0).1) (r : Int) := by rw [hdr, List.drop_zero, vals_graph r5]
  have hra : r ≠ a := by rintro rfl; exact hc h.al
  refine ⟨⟨⟨h.st.dn, h.st.dle, fun i hi hil => h.st.d0 i hi (fun hm => hil (by simp [hm])), h.st.ord.snoc2 hc (by omega), h.st.nnb⟩, r5, ?_, ⟨h.an, h.aP, hl, by rw [hx, hx2], h.link⟩, by simp, fun p hp => ?_, ?_⟩, ?_⟩
  · intro hm
    rcases List.mem_cons.1 hm with e | hm
    · exact hra e
    · exact hc (h.Pl r hm)
  · rcases List.mem_cons.1 hp with rfl | hp
    · exact List.mem_append_left _ h.al
    · exact List.mem_append_left _ (h.Pl p hp)
  · rw [drop_vals hx, ht] at hk hcont
    rw [walkN_push (graph_ok hgf) hk ⟨rfl, hc⟩] at hcont
    rw [e0]
    exact hcont
  · unfold vMeas
    have hw := wkU_add (gs := graphOf ws (parse nW ws 0).1) (l := l) (x := (r : Int)) (by omega) (by rw [graph_len]; omega) hc
    rw [e0, drop_vals hx]
    show wkM _ (fieldsI (graphOf ws (parse nW ws 0).1) (r : Int) :: (valsN ws (parse nW ws 0).1 a).drop (d a + 1) :: restN ws (parse nW ws 0).1 d P) _ < _
    unfold wkM
    rw [wkS_cons, wkS_cons, wkS_cons]
    simp only [List.length_cons]
    omega
/-- Up. -/
theorem VIn.up {p : Nat} (h : VIn nW ws R (p :: P) a d D nn l) (hl : ¬ d a < lenN (parse nW ws 0).1 a) (hok : ArnOk nW ws) :
    VIn nW ws R P p (incD d p) (D.put (.int .i64 (plcN (parse nW ws 0).1 p)) (.lit (.int .i64 ((d p + 1 : Nat) : Int)))) (nn + 1) l ∧ vMeas nW ws P p (incD d p) l < vMeas nW ws (p :: P) a d l := by
  obtain ⟨h1, h2, h3, h4, h5⟩ := h.link
  have hne : ∀ q ∈ P, d q = incD d p q := fun q hq => (incD_other (by rintro rfl; exact h2 hq)).symm
  have hend := h.end_ hl hok
  refine ⟨⟨h.st.put h1 h3 (h.Pl p (by simp)), h1, h2, h5.congr hne, h.Pl p (by simp), fun q hq => h.Pl q (by simp [hq]), ?_⟩, ?_⟩
  · rw [incD_self, ← restN_congr hne]
    exact hend
  · unfold vMeas
    rw [incD_self, ← restN_congr hne]
    show wkM _ (restN ws (parse nW ws 0).1 d (p :: P)) l < wkM _ (_ :: restN ws (parse nW ws 0).1 d (p :: P)) l
    unfold wkM
    conv => rhs; rw [wkS_cons]
    omega
theorem VIn.begin_ (hgf : ∀ x ∈ fieldsOf ws (parse nW ws 0).1, GoodW (parse nW ws 0).1 x) (h : VSt nW ws d D nn l) (ha : a < (parse nW ws 0).1.length) (hal : (a : Int) ∉ l) : VIn nW ws (walkN (graphOf ws (parse nW ws 0).1) [fieldsI (graphOf ws (parse nW ws 0).1) (a : Int)] (l ++ [(a : Int)])) [] a d D nn (l ++ [(a : Int)]) := by
  refine ⟨⟨h.dn, h.dle, fun i hi hil => h.d0 i hi (fun hm => hil (by simp [hm])), h.ord.snoc2 hal (by omega), h.nnb⟩, ha, by simp, trivial, by simp, by simp, ?_⟩
  rw [h.d0 a ha hal, List.drop_zero, vals_graph ha]
  rfl
theorem VIn.done (h : VIn nW ws R [] a d D nn l) (hl : ¬ d a < lenN (parse nW ws 0).1 a) (hok : ArnOk nW ws) : l = R := by
  have h1 := h.end_ hl hok
  show l = R
  rw [← h1]
  exact (walkN_nil _ _).symm
end
end Go.Proofs.Ytpbafmdebflbpaa

namespace Go.Proofs.Ytpbafmdebflbpaa
open Go.RowKit Go.Maps

set_option maxRecDepth 100000 in
theorem step_lookup {w : World} {ops : Array Oper} {o : Oper} {a : Act} {K : Act → World → Prop} {Q : Exit → Act → World → Prop} {E : Prop} (hgd : o.guard = none) (m x : Operand) (hop : o.op = Op.lookup 117 m x false)
    {b n : Nat} {D : DataW Unit} (hown : w.ownsMap Try.prog 3 (plainElem Try.prog 3) b n D) (y z : Int) (hm : a.eval m = .map (some b)) (hx : a.eval x = .int .i64 y)
    (hy : (Lit.int .i64 y).wf = true) (hz : D.atKey (.int .i64 y) (.lit (.int .i64 0)) = .lit (.int .i64 z)) (h : K (a.put o.dst (.int .i64 z)) w) :
    if Region.wanted o (yielded ops a.tmps) = true then Oper.wp Try.prog o a w K Q else E := by
  have hw : Region.wanted o (yielded ops a.tmps) = true := by simp [Region.wanted, hgd]
  rw [if_pos hw]
  obtain ⟨c, hrun, hat, hwc⟩ := hown.lookup_int (int_keyed Try.underlying3) Try.underlying117 Try.underlying3 (zeroInt_ w) (keyOf_int_mk Try.underlying3 hy)
  obtain rfl : c = z := by
    have h9 := hz.symm.trans hat
    injection h9 with h9; injection h9 with _ h9; exact h9.symm
  unfold Oper.wp
  simp [execOp, hop, hm, hx, hrun, Result.andThen]
  exact h

theorem wpList_lookup_at {w : World} {ops : Array Oper} {rest : List Oper} {o : Oper} {a : Act} {Q : Exit → Act → World → Prop} (hg : o.guard = none) (m x : Operand) (hop : o.op = Op.lookup 117 m x false)
    {b n : Nat} {D : DataW Unit} (hown : w.ownsMap Try.prog 3 (plainElem Try.prog 3) b n D) (y z : Int) (hm : a.eval m = .map (some b)) (hx : a.eval x = .int .i64 y) (hy : (Lit.int .i64 y).wf = true) (hz : D.atKey (.int .i64 y) (.lit (.int .i64 0)) = .lit (.int .i64 z))
    (hK : wpList Try.prog ops Q rest (a.put o.dst (.int .i64 z)) w) : wpList Try.prog ops Q (o :: rest) a w := by
  refine wpList_lookup_own_int w hg m x 117 hop 3 3 .i64 (int_keyed Try.underlying3) Try.underlying117 Try.underlying3 (zeroInt_ _) b n D hm hown _ _ hx (keyOf_int_mk Try.underlying3 hy) fun c hat _ => ?_
  obtain rfl : c = z := by
    have h9 := hz.symm.trans hat
    injection h9 with h9; injection h9 with _ h9; exact h9.symm
  exact hK
theorem Sep.mapSet {F : Nat → Prop} {W w w' : World} {items : List Item} {b n n' : Nat} {D D' : DataW Unit} (hS : Sep F W w items) (k : Nat) (hk : items[k]? = some (mapJ b n D)) (hown : w'.ownsMap Try.prog 3 (plainElem Try.prog 3) b n' D') (hg : w.grownBy w' (some b)) : Sep F W w' (items.set k (mapJ b n' D')) :=
  hS.step k hk ((Chg.of_grown hg).mono (fun g hx => .inl (by injection hx with hx; exact hx.symm))) (mapJ b n' D') hown (fun g hg => .inl hg)
set_option maxRecDepth 100000 in
theorem run_lookup_at {w : World} {b n : Nat} {D : DataW Unit} (hown : w.ownsMap Try.prog 3 (plainElem Try.prog 3) b n D) (y z : Int) (hy : (Lit.int .i64 y).wf = true) (hz : D.atKey (.int .i64 y) (.lit (.int .i64 0)) = .lit (.int .i64 z)) : (Instr.lookup 117 (.map (some b)) (.int .i64 y) false).run Try.prog w = .ok (.int .i64 z) w := by
  obtain ⟨c, hrun, hat, hwc⟩ := hown.lookup_int (int_keyed Try.underlying3) Try.underlying117 Try.underlying3 (zeroInt_ w) (keyOf_int_mk Try.underlying3 hy)
  obtain rfl : c = z := by
    have h9 := hz.symm.trans hat
    injection h9 with h9; injection h9 with _ h9; exact h9.symm
  exact hrun
theorem back_prev (pre : List (Nat × Nat)) (P : List Nat) : backW pre P = 2 * (prevW pre P + 1) := by cases P <;> rfl
theorem prev_bd {pre : List (Nat × Nat)} (h : ∀ i, i < pre.length → plcN pre i ≤ 256) {P : List Nat} (hP : ∀ p ∈ P, p < pre.length) : -1 ≤ prevW pre P ∧ prevW pre P ≤ 1000 := by
  cases P with
  | nil => exact ⟨Int.le_refl _, by show (-1 : Int) ≤ 1000; omega⟩
  | cons p P =>
    have := h p (hP p (by simp))
    show -1 ≤ (plcN pre p : Int) ∧ (plcN pre p : Int) ≤ 1000
    omega
theorem skip_meas {nW : Nat} {ws : List Int} {P : List Nat} {a : Nat} {d : Nat → Nat} {l : List Int} (h : a ∉ P) : vMeas nW ws P a (incD d a) l ≤ vMeas nW ws P a d l := by
  unfold vMeas wkM
  rw [wkS_cons, wkS_cons, incD_self, ← restN_congr (d := d) (d' := incD d a) (fun p hp => (incD_other (by rintro rfl; exact h hp)).symm)]
  simp only [List.length_drop]
  omega

set_option maxRecDepth 100000 in
set_option maxHeartbeats 64000000 in
theorem climb_any (w : World) (m : Nat) (ws : List Int) (Aw Ao : Option Addr) (nw cw b nn no co : Nat) (D : DataW Unit) (d : Nat → Nat) (l : List Int) (r : Nat) (hs : (allI (ViI m ws (parse nw ws 0).1 Aw Ao nw cw b nn no co D (fldN ws (parse nw ws 0).1) l)).P w) (hok : ArnOk nw ws) (hgf : ∀ x ∈ fieldsOf ws (parse nw ws 0).1, GoodW (parse nw ws 0).1 x)
    (hst : VSt nw ws d D nn l) (hr : r < (parse nw ws 0).1.length) (hrl : (r : Int) ∉ l) (hno : no = l.length) :
    Calls Try.prog 85 #[.pointer (some ⟨m, 0, none⟩), .int .i64 (plcN (parse nw ws 0).1 r)] w fun e w' => ∃ d' D' nn' Ao' no' co', (∃ v, e = .returned v) ∧ VSt nw ws d' D' nn' (walkN (graphOf ws (parse nw ws 0).1) [fieldsI (graphOf ws (parse nw ws 0).1) (r : Int)] (l ++ [(r : Int)])) ∧
      no' = (walkN (graphOf ws (parse nw ws 0).1) [fieldsI (graphOf ws (parse nw ws 0).1) (r : Int)] (l ++ [(r : Int)])).length ∧
      Sep (allI (ViI m ws (parse nw ws 0).1 Aw Ao nw cw b nn no co D (fldN ws (parse nw ws 0).1) l)).fp w w' [allI (ViI m ws (parse nw ws 0).1 Aw Ao' nw cw b nn' no' co' D' (fldN ws (parse nw ws 0).1) (walkN (graphOf ws (parse nw ws 0).1) [fieldsI (graphOf ws (parse nw ws 0).1) (r : Int)] (l ++ [(r : Int)])))] := by
  obtain ⟨F, hF⟩ : ∃ F, (allI (ViI m ws (parse nw ws 0).1 Aw Ao nw cw b nn no co D (fldN ws (parse nw ws 0).1) l)).fp = F := ⟨_, rfl⟩
  have hpl := pre_len hok
  have hn := hok.max
  have hll := hst.ord.len
  have C0 := enter_any w m ws Aw Ao nw cw b nn no co D (fldN ws (parse nw ws 0).1) l r hs hok (fldN_len hok) hr hrl (by omega)
  rw [hF] at C0 ⊢
  have HB := hide (VIn.begin_ hgf hst hr hrl)
  have HIN := hide (fun R P a d D nn l x h hx hl hc => VIn.skip (nW := nw) (ws := ws) (R := R) (P := P) (a := a) (d := d) (D := D) (nn := nn) (l := l) (x := x) hgf h hx hl hc)
  have HDN := hide (fun R P a d D nn l x h hx hl hg hr hc => VIn.down (nW := nw) (ws := ws) (R := R) (P := P) (a := a) (d := d) (D := D) (nn := nn) (l := l) (x := x) hgf h hx hl hg hr hc)
  have HUP := hide (fun R P a d D nn l p h hl => VIn.up (nW := nw) (ws := ws) (R := R) (P := P) (a := a) (d := d) (D := D) (nn := nn) (l := l) (p := p) h hl hok)
  have HDO := hide (fun R a d D nn l h hl => VIn.done (nW := nw) (ws := ws) (R := R) (a := a) (d := d) (D := D) (nn := nn) (l := l) h hl hok)
  have HSD := hide (fun d h => sumD_le hok (d := d) h)
  have HOBJ := hide (fun i hi => hok.obj (i := i) hi)
  have HFL := hide (fun i hi => hok.fld (i := i) hi)
  have HGH := hide (fun g i hg hi S => g_head (g := g) (i := i) hok hg hi S)
  have HGF := hide (fun g i j hg hi hj S => g_field (g := g) (i := i) (j := j) hok hg hi hj S)
  have HGS := hide (fun g i j x hg hi hj S => g_setField (g := g) (i := i) (j := j) hok hg hi hj S x)
  have HGL := hide (fun d P => gP_len hok d P)
  have HG := hide (fld_good hgf)
  have HLT := hide (fun d P a h => Linked.lt (nW := nw) (ws := ws) (d := d) (P := P) (a := a) h)
  have ENT := hide (fun w' Ao nn no co D g l r hs hg hr hrl hno => enter_any w' m ws Aw Ao nw cw b nn no co D g l r hs hok hg hr hrl hno)
  have HNO := hide hno
  obtain ⟨R, hR⟩ : ∃ R, walkN (graphOf ws (parse nw ws 0).1) [fieldsI (graphOf ws (parse nw ws 0).1) (r : Int)] (l ++ [(r : Int)]) = R := ⟨_, rfl⟩
  rw [hR] at HB ⊢
  obtain ⟨pre, hpre⟩ : ∃ pre, (parse nw ws 0).1 = pre := ⟨_, rfl⟩
  have HPRE := hide hpre
  rw [hpre] at C0 HIN HDN HUP HDO HSD HOBJ HFL HGH HGF HGS HGL HG HLT ENT hpl hr ⊢
  have C0 := hide C0
  clear hF hs hok hgf hst hrl hno hR hpre hll
  go_enter Try.func85, Try.ntmps85
  go_wp2_with fail
  go_step3
  go_wp2_with fail
  refine C0.out.mono ?_
  rintro e w1 ⟨Ao1, co1, ⟨v, rfl⟩, hS1⟩
  have HS1 := hide hS1
  have HNO1 := hide (show no + 1 = (l ++ [(r : Int)]).length by rw [List.length_append, HNO.out]; rfl)
  clear C0 hS1 HNO
  go_wp2_with fail
  go_step3
  go_wp2_with fail
  go_loopg [1, 4] (vMeas nw ws [] r d (l ++ [(r : Int)])) (fun k p1 p4 wr => ∃ (P : List Nat) (a : Nat) (d : Nat → Nat) (D : DataW Unit) (nn : Nat) (l : List Int) (Ao : Option Addr) (no co : Nat), k = vMeas nw ws P a d l ∧ p1 = .int .i64 (plcN pre a) ∧ p4 = .int .i64 (prevW pre P) ∧ Hid (VIn nw ws R P a d D nn l) ∧ Hid (no = l.length) ∧ Sep F w wr [allI (ViI m ws pre Aw Ao nw cw b nn no co D (gP ws pre d P) l)])
  case atStart => exact ⟨[], r, d, D, nn, l ++ [(r : Int)], Ao1, no + 1, co1, rfl, rfl, rfl, HB, HNO1, HS1.out⟩
  case round =>
    clear HB HS1 HNO1 hr
    obtain ⟨P, a, d, D, nn, l, Ao, no, co, hgk, rfl, rfl, HV, HNO, hS⟩ := hrel
    have han := HV.out.an
    rw [HPRE.out] at han
    obtain ⟨o1, o2, o3, o4, o5, o6, o7⟩ := HOBJ.out a han
    have hS' := hS.flat
    obtain ⟨b1, b2, b3, b4⟩ := hS'.rules 3 (g := m) (t := 145) rfl
    have b5 := b1 0
    have hrow : wr.ownsRow 0 24 1 (.slice Aw nw cw) nw (u64s (mkG ws pre (Sl l) (gP ws pre d P))) := hS'.get 0 rfl
    obtain ⟨gw, hAw⟩ := own_addr hrow (by omega)
    have hcw := own_cap hrow
    subst hAw
    have f0 : wr.cell? ⟨gw, plcN pre a, none⟩ = some (.int .u64 (headW (lenN pre a : Int) (Sl l a) (ageN ws pre a))) := by
      rw [hrow.cellAt _ (by omega), u64s_get, HGH.out _ a (HGL.out d P) han]; rfl
    have hhp := head_parts_ (len := (lenN pre a : Int)) (a := ageN ws pre a) (by omega) (by omega) o6 o7 (Sl l a)
    have C := hide (fieldsAt_any wr gw nw cw (plcN pre a) (lenN pre a) _ f0 ⟨hhp.2.2.2.2.1, hhp.2.2.2.2.2⟩ hn hcw.1 hcw.2 hhp.2.2.2.1 hhp.1 o4)
    have HS := hide hS
    have HGK := hide hgk
    clear hS hS' b1 b4 hrow f0 hhp o2 o3 o6 o7 hgk
    go_wp2_with fail
    refine C.out.mono ?_
    rintro e w5 ⟨Af, cf, rfl, hb5, hAf⟩
    have HS5 := hide (HS.out.below hb5)
    clear C HS hb5 b2 b3 b5
    go_wp2_with fail
    go_loopg [1, 4, 6] (lenN pre a - d a) (fun q p1 p4 p6 wx => ∃ (d2 : Nat → Nat) (D2 : DataW Unit) (nn2 : Nat), q = lenN pre a - d2 a ∧ p1 = .int .i64 (plcN pre a) ∧ p4 = .int .i64 (prevW pre P) ∧ Hid (VIn nw ws R P a d2 D2 nn2 l) ∧ Hid (vMeas nw ws P a d2 l ≤ vMeas nw ws P a d l) ∧ Sep F w wx [allI (ViI m ws pre (some ⟨gw, 0, none⟩) Ao nw cw b nn2 no co D2 (gP ws pre d2 P) l)])
    case atStart => exact ⟨d, D, nn, rfl, rfl, rfl, HV, Nat.le_refl _, HS5.out⟩
    case round =>
      clear HS5 HV
      obtain ⟨d2, D2, nn2, hq, rfl, rfl, HV, HMS, hS⟩ := hrel
      have hS' := hS.flat
      obtain ⟨b1, b2, b3, b4⟩ := hS'.rules 3 (g := m) (t := 145) rfl
      have b5 := b1 0
      have b6 := b1 1
      have hown : wr.ownsMap Try.prog 3 (plainElem Try.prog 3) b nn2 D2 := hS'.get 2 rfl
      have hrow : wr.ownsRow 0 24 1 (.slice (some ⟨gw, 0, none⟩) nw cw) nw (u64s (mkG ws pre (Sl l) (gP ws pre d2 P))) := hS'.get 0 rfl
      have hat := HV.out.st.dn.at_ a (by rw [HPRE.out]; exact han)
      rw [HPRE.out] at hat
      have hwf : (Lit.int .i64 (plcN pre a : Int)).wf = true := WalkArith.wf_i64 (by omega)
      have hnnb := HV.out.st.nnb
      have hsd := HSD.out d2 (by have h := HV.out.st.dle; rw [HPRE.out] at h; exact h)
      rw [HPRE.out] at hnnb
      have hnn2 : nn2 ≤ 256 := by omega
      have hfl := HFL.out a han
      obtain ⟨dv, hdv⟩ : ∃ dv, d2 a = dv := ⟨_, rfl⟩
      rw [hdv] at hat hq
      have HDV := hide hdv
      have HAT := hide hat
      by_cases hlt : dv < lenN pre a
      · have hjl : dv < (fldN ws pre a).length := by rw [hfl]; exact hlt
        have hfx := HGF.out (gP ws pre d2 P) a dv (HGL.out d2 P) han hlt (Sl l)
        rw [gP_out HV.out.aP, List.getElem?_eq_getElem hjl] at hfx
        have f0 : wr.cell? ⟨gw, plcN pre a + 1 + dv, none⟩ = some (.int .u64 (fldN ws pre a)[dv]) := by
          rw [hrow.cellAt _ (by omega), u64s_get, hfx]; rfl
        have f1 := hrow.frozenAt (plcN pre a + 1 + dv)
        have hgx := HG.out a han _ (List.getElem_mem hjl)
        have hx0 : (fldN ws pre a)[d2 a]? = some (fldN ws pre a)[dv] := by rw [hdv, List.getElem?_eq_getElem hjl]
        obtain ⟨x, hx⟩ : ∃ x, (fldN ws pre a)[dv] = x := ⟨_, rfl⟩
        rw [hx] at f0 hgx hx0
        have K1 : decide ((dv : Int) < (lenN pre a : Int)) = true := by simp; omega
        have K2 : decide (dv < lenN pre a) = true := by simp; omega
        have hAf2 := hAf (by omega)
        have W1 : IntKind.i64.wrap ((dv : Int) + 1) = ((dv + 1 : Nat) : Int) := by simp only [IntKind.wrap_i64]; omega
        have hwf2 : (Lit.int .i64 ((dv + 1 : Nat) : Int)).wf = true := WalkArith.wf_i64 (by omega)
        have hlt2 : d2 a < lenN pre a := by rw [hdv]; exact hlt
        have HX0 := hide hx0
        have HS := hide hS'
        subst hAf2
        cases hr : unR x with
        | false =>
          have HV2 : Hid (VIn nw ws R P a (incD d2 a) (D2.put (.int .i64 (plcN pre a)) (.lit (.int .i64 ((dv + 1 : Nat) : Int)))) (nn2 + 1) l) := by
            have h := HIN.out R P a d2 D2 nn2 l x HV.out hx0 hlt2 (.inl hr)
            rw [hdv] at h
            exact h
          have C := hide (ref_num wr x hgx.lo hgx.hi (hgx.num hr))
          clear hS hS' b1 b4 hrow hat hnnb hsd hfl hdv hjl hfx f1 hgx hx0 hx hlt2 hr
          go_wp2_with (first
            | (at_lookup
               refine wpList_lookup_at rfl _ _ rfl hown (plcN pre a : Int) (dv : Int) rfl rfl hwf HAT.out ?_)
            | (at_mapUpdate
               refine wpList_mapUpdate_own _ rfl _ _ _ 117 rfl 3 3 (int_keyed Try.underlying3) Try.underlying117 _ b nn2 _ rfl hown (by unfold maxLen; omega) _ _ _ rfl rfl (keyOf_int_mk Try.underlying3 hwf) _ [] (plainElem_int Try.underlying3 hwf2) ?_
               intro w6 hown6 hgrow6
               have hS6 := HS.out.mapSet 2 rfl hown6 hgrow6
               clear hgrow6 hown6))
          refine C.out.mono ?_
          rintro e w6 ⟨rfl, rfl⟩
          go_wp2_with (first
            | (at_lookup
               refine wpList_lookup_at rfl _ _ rfl hown (plcN pre a : Int) (dv : Int) rfl rfl hwf HAT.out ?_)
            | (at_mapUpdate
               refine wpList_mapUpdate_own _ rfl _ _ _ 117 rfl 3 3 (int_keyed Try.underlying3) Try.underlying117 _ b nn2 _ rfl hown (by unfold maxLen; omega) _ _ _ rfl rfl (keyOf_int_mk Try.underlying3 hwf) _ [] (plainElem_int Try.underlying3 hwf2) ?_
               intro w6 hown6 hgrow6
               have hS6 := HS.out.mapSet 2 rfl hown6 hgrow6
               clear hgrow6 hown6))
          have HSK := hide (show Sep F w w6 [allI (ViI m ws pre (some ⟨gw, 0, none⟩) Ao nw cw b (nn2 + 1) no co (D2.put (.int .i64 (plcN pre a)) (.lit (.int .i64 ((dv + 1 : Nat) : Int)))) (gP ws pre (incD d2 a) P) l)] from by
                have h := hS6.fold
                rw [gP_congr (d := incD d2 a) (d' := d2) (fun p hp => incD_other (fun e => HV.out.aP (e ▸ hp)))]
                exact h)
          clear hS6
          go_frame
          go_roundg (lenN pre a - incD d2 a a)
          case measure => rw [incD_self, HDV.out]; omega
          case rel => exact ⟨incD d2 a, _, nn2 + 1, rfl, rfl, rfl, HV2, Nat.le_trans (skip_meas HV.out.aP) HMS.out, HSK.out⟩
        | true =>
          obtain ⟨r1, r2, r3, r4, r5⟩ := hgx.ref hr
          obtain ⟨q, hqq⟩ : ∃ q, ixOf pre (unA x) = q := ⟨_, rfl⟩
          have r6 : (plcN pre q : Int) = x / 2 := by rw [← hqq, ← r4]; unfold plcN plc; simp
          rw [hqq] at r5
          have C := ref_ref wr x hgx.lo (by omega) r1
          rw [← r6] at C
          obtain ⟨p1, p2, p3, p4, p5, p6, p7⟩ := HOBJ.out q r5
          have g0 : wr.cell? ⟨gw, plcN pre q, none⟩ = some (.int .u64 (headW (lenN pre q : Int) (Sl l q) (ageN ws pre q))) := by
            rw [hrow.cellAt _ (by omega), u64s_get, HGH.out _ q (HGL.out d2 P) r5]; rfl
          have MB := (mark_bits (len := (lenN pre q : Int)) (a := ageN ws pre q) (by omega) (by omega) p6 p7 (Sl l q)).2.2
          obtain ⟨hw, hhw⟩ : ∃ hw, headW (lenN pre q : Int) (Sl l q) (ageN ws pre q) = hw := ⟨_, rfl⟩
          rw [hhw] at MB g0
          have C := hide C
          by_cases hm : (q : Int) ∈ l
          · rw [if_pos (show Sl l q = true by unfold Sl; simp [hm])] at MB
            have CB := hide (bit_any wr hw 256 MB)
            have HV2 : Hid (VIn nw ws R P a (incD d2 a) (D2.put (.int .i64 (plcN pre a)) (.lit (.int .i64 ((dv + 1 : Nat) : Int)))) (nn2 + 1) l) := by
              have h := HIN.out R P a d2 D2 nn2 l x HV.out hx0 hlt2 (.inr (by rw [hqq]; exact hm))
              rw [hdv] at h
              exact h
            clear hS hS' b1 b4 hrow hat hnnb hsd hfl hdv hjl hfx f1 hgx hx0 hx hlt2 hr r1 r2 r3 r4 r6 p2 p3 p4 p5 p6 p7 MB hhw hqq hm
            go_wp2_with (first
              | (at_lookup
                 refine wpList_lookup_at rfl _ _ rfl hown (plcN pre a : Int) (dv : Int) rfl rfl hwf HAT.out ?_)
              | (at_mapUpdate
                 refine wpList_mapUpdate_own _ rfl _ _ _ 117 rfl 3 3 (int_keyed Try.underlying3) Try.underlying117 _ b nn2 _ rfl hown (by unfold maxLen; omega) _ _ _ rfl rfl (keyOf_int_mk Try.underlying3 hwf) _ [] (plainElem_int Try.underlying3 hwf2) ?_
                 intro w6 hown6 hgrow6
                 have hS6 := HS.out.mapSet 2 rfl hown6 hgrow6
                 clear hgrow6 hown6))
            refine C.out.mono ?_
            rintro e w6 ⟨rfl, rfl⟩
            go_wp2_with (first
              | (at_lookup
                 refine wpList_lookup_at rfl _ _ rfl hown (plcN pre a : Int) (dv : Int) rfl rfl hwf HAT.out ?_)
              | (at_mapUpdate
                 refine wpList_mapUpdate_own _ rfl _ _ _ 117 rfl 3 3 (int_keyed Try.underlying3) Try.underlying117 _ b nn2 _ rfl hown (by unfold maxLen; omega) _ _ _ rfl rfl (keyOf_int_mk Try.underlying3 hwf) _ [] (plainElem_int Try.underlying3 hwf2) ?_
                 intro w6 hown6 hgrow6
                 have hS6 := HS.out.mapSet 2 rfl hown6 hgrow6
                 clear hgrow6 hown6))
            refine CB.out.mono ?_
            rintro e w6 ⟨rfl, rfl⟩
            go_wp2_with (first
              | (at_lookup
                 refine wpList_lookup_at rfl _ _ rfl hown (plcN pre a : Int) (dv : Int) rfl rfl hwf HAT.out ?_)
              | (at_mapUpdate
                 refine wpList_mapUpdate_own _ rfl _ _ _ 117 rfl 3 3 (int_keyed Try.underlying3) Try.underlying117 _ b nn2 _ rfl hown (by unfold maxLen; omega) _ _ _ rfl rfl (keyOf_int_mk Try.underlying3 hwf) _ [] (plainElem_int Try.underlying3 hwf2) ?_
                 intro w6 hown6 hgrow6
                 have hS6 := HS.out.mapSet 2 rfl hown6 hgrow6
                 clear hgrow6 hown6))
            have HSK := hide (show Sep F w w6 [allI (ViI m ws pre (some ⟨gw, 0, none⟩) Ao nw cw b (nn2 + 1) no co (D2.put (.int .i64 (plcN pre a)) (.lit (.int .i64 ((dv + 1 : Nat) : Int)))) (gP ws pre (incD d2 a) P) l)] from by
                  have h := hS6.fold
                  rw [gP_congr (d := incD d2 a) (d' := d2) (fun p hp => incD_other (fun e => HV.out.aP (e ▸ hp)))]
                  exact h)
            clear hS6
            go_frame
            go_roundg (lenN pre a - incD d2 a a)
            case measure => rw [incD_self, HDV.out]; omega
            case rel => exact ⟨incD d2 a, _, nn2 + 1, rfl, rfl, rfl, HV2, Nat.le_trans (skip_meas HV.out.aP) HMS.out, HSK.out⟩
          · rw [if_neg (show ¬ Sl l q = true by unfold Sl; simp [hm])] at MB
            have CB := hide (bit_any wr hw 0 MB)
            have HD := HDN.out R P a d2 D2 nn2 l x HV.out hx0 hlt2 hgx hr (by rw [hqq]; exact hm)
            rw [hqq] at HD
            obtain ⟨hd1, hd2⟩ := HD
            have hlink := HV.out.link
            rw [HPRE.out] at hlink
            have hbd := prev_bd (pre := pre) (P := P) (fun i hi => by have := HOBJ.out i hi; omega) (HLT.out d2 P a hlink)
            have CBK := fun w' => back_any w' (prevW pre P) hbd.1 hbd.2
            obtain ⟨bw, hbw⟩ : ∃ bw, 2 * (prevW pre P + 1) = bw := ⟨_, rfl⟩
            rw [hbw] at CBK
            have CBK := hide CBK
            have hS6 := HS.out.store 0 (g := gw) (e := 24) (size := 1) (n := nw) (c := cw) (xs := u64s (mkG ws pre (Sl l) (gP ws pre d2 P))) rfl (plcN pre a + 1 + dv) (.int .u64 bw)
            rw [u64s_set, HGS.out (gP ws pre d2 P) a dv bw (HGL.out d2 P) han hlt (Sl l), show setG (gP ws pre d2 P) a dv bw = gP ws pre d2 (a :: P) from by
              show _ = setG (gP ws pre d2 P) a (d2 a) (backW pre P)
              rw [hdv, back_prev, hbw]] at hS6
            have hO := HV.out.st.ord.len
            rw [HPRE.out] at hO
            have hS7 : Sep F w (wr.setCell ⟨gw, plcN pre a + 1 + dv, none⟩ (.int .u64 bw)) [allI (ViI m ws pre (some ⟨gw, 0, none⟩) Ao nw cw b nn2 no co D2 (gP ws pre d2 (a :: P)) l)] := hS6.fold
            have CE := hide (ENT.out _ Ao nn2 no co D2 (gP ws pre d2 (a :: P)) l q (hS7.get 0 rfl) (HGL.out d2 (a :: P)) r5 hm (by have := HNO.out; omega))
            have HS7 := hide hS7
            have HD1 := hide hd1
            have HD2 := hide (Nat.lt_of_lt_of_le hd2 HMS.out)
            have HNO2 := hide (show no + 1 = (l ++ [(q : Int)]).length by rw [List.length_append, HNO.out]; rfl)
            clear hS hS' b1 b4 hrow hat hnnb hsd hfl hdv hjl hfx hgx hx0 hx hlt2 hr r1 r2 r3 r4 r6 p2 p3 p4 p5 p6 p7 MB hhw hqq hm hd1 hd2 hlink hbd hbw hS6 hS7 hO
            go_wp2_with (first
              | (at_lookup
                 refine wpList_lookup_at rfl _ _ rfl hown (plcN pre a : Int) (dv : Int) rfl rfl hwf HAT.out ?_)
              | (at_mapUpdate
                 refine wpList_mapUpdate_own _ rfl _ _ _ 117 rfl 3 3 (int_keyed Try.underlying3) Try.underlying117 _ b nn2 _ rfl hown (by unfold maxLen; omega) _ _ _ rfl rfl (keyOf_int_mk Try.underlying3 hwf) _ [] (plainElem_int Try.underlying3 hwf2) ?_
                 intro w6 hown6 hgrow6
                 have hS6 := HS.out.mapSet 2 rfl hown6 hgrow6
                 clear hgrow6 hown6))
            refine C.out.mono ?_
            rintro e w6 ⟨rfl, rfl⟩
            go_wp2_with (first
              | (at_lookup
                 refine wpList_lookup_at rfl _ _ rfl hown (plcN pre a : Int) (dv : Int) rfl rfl hwf HAT.out ?_)
              | (at_mapUpdate
                 refine wpList_mapUpdate_own _ rfl _ _ _ 117 rfl 3 3 (int_keyed Try.underlying3) Try.underlying117 _ b nn2 _ rfl hown (by unfold maxLen; omega) _ _ _ rfl rfl (keyOf_int_mk Try.underlying3 hwf) _ [] (plainElem_int Try.underlying3 hwf2) ?_
                 intro w6 hown6 hgrow6
                 have hS6 := HS.out.mapSet 2 rfl hown6 hgrow6
                 clear hgrow6 hown6))
            refine CB.out.mono ?_
            rintro e w6 ⟨rfl, rfl⟩
            go_wp2_with fail
            refine (CBK.out _).mono ?_
            rintro e w6 ⟨rfl, rfl⟩
            go_wp2_with fail
            refine CE.out.mono ?_
            rintro e w7 ⟨Ao7, co7, ⟨v, rfl⟩, hP⟩
            have HS8 := hide (HS7.out.call 0 rfl hP)
            clear hP CE HS7
            go_wp2_with fail
            go_roundg (vMeas nw ws (a :: P) q d2 (l ++ [(q : Int)]))
            case measure => rw [HGK.out]; exact HD2.out
            case rel => exact ⟨a :: P, q, d2, D2, nn2, l ++ [(q : Int)], Ao7, no + 1, co7, rfl, rfl, rfl, HD1, HNO2, HS8.out⟩
      · have K1 : decide ((dv : Int) < (lenN pre a : Int)) = false := by simp; omega
        have K2 : decide (dv < lenN pre a) = false := by simp; omega
        have hlt2 : ¬ d2 a < lenN pre a := by rw [hdv]; exact hlt
        have HS := hide hS'
        cases P with
        | nil =>
          have HE := hide (HDO.out R a d2 D2 nn2 l HV.out hlt2)
          have K3 : (prevW pre [] == (-1 : Int)) = true := rfl
          clear hS hS' b1 b4 hrow hat hnnb hsd hfl hdv hlt2
          go_wp2_with (first
            | (at_lookup
               refine wpList_lookup_at rfl _ _ rfl hown (plcN pre a : Int) (dv : Int) rfl rfl hwf HAT.out ?_))
          rw [Exit.noGoto_ret]
          refine bodyPost_ret (results_none rfl _ _ _) rfl ?_
          have hv := HV.out.st
          have hno := HNO.out
          have hs := HS.out.fold
          rw [HE.out] at hv hno hs
          exact ⟨d2, D2, nn2, Ao, no, co, ⟨_, rfl⟩, hv, hno, hs⟩
        | cons p P =>
          have hlink := HV.out.link
          rw [HPRE.out] at hlink
          obtain ⟨l1, l2, l3, l4, l5⟩ := hlink
          have K3 : (prevW pre (p :: P) == (-1 : Int)) = false := by
            show ((plcN pre p : Int) == -1) = false
            rw [beq_eq_false_iff_ne]; omega
          have hpw : prevW pre (p :: P) = (plcN pre p : Int) := rfl
          obtain ⟨p1, p2, p3, p4, p5, p6, p7⟩ := HOBJ.out p l1
          have g0 : wr.cell? ⟨gw, plcN pre p, none⟩ = some (.int .u64 (headW (lenN pre p : Int) (Sl l p) (ageN ws pre p))) := by
            rw [hrow.cellAt _ (by omega), u64s_get, HGH.out _ p (HGL.out d2 (p :: P)) l1]; rfl
          have hhp := head_parts_ (len := (lenN pre p : Int)) (a := ageN ws pre p) (by omega) (by omega) p6 p7 (Sl l p)
          have CF := hide (fun nd => fieldsAt_any (wr.drewN nd) gw nw cw (plcN pre p) (lenN pre p) _ g0 ⟨hhp.2.2.2.2.1, hhp.2.2.2.2.2⟩ hn hcw.1 hcw.2 hhp.2.2.2.1 hhp.1 p4)
          have hup := HUP.out R P a d2 D2 nn2 l p HV.out hlt2
          obtain ⟨hu1, hu2⟩ := hup
          have HU1 := hide hu1
          have HU2 := hide (Nat.lt_of_lt_of_le hu2 HMS.out)
          have hatp := HV.out.st.dn.at_ p (by rw [HPRE.out]; exact l1)
          rw [HPRE.out] at hatp
          have hbd := prev_bd (pre := pre) (P := P) (fun i hi => by have := HOBJ.out i hi; omega) (HLT.out d2 P p l5)
          have hwfp : (Lit.int .i64 (plcN pre p : Int)).wf = true := WalkArith.wf_i64 (by omega)
          obtain ⟨dp, hdp⟩ : ∃ dp, d2 p = dp := ⟨_, rfl⟩
          rw [hdp] at hatp l3 l4
          have HDP := hide hdp
          have HATP := hide hatp
          have HL2 := hide l2
          have HL4 := hide l4
          have hplen : 0 < lenN pre p := by omega
          have hgf := HGF.out (gP ws pre d2 (p :: P)) p dp (HGL.out d2 (p :: P)) l1 l3 (Sl l)
          have hgl := HGL.out d2 P p l1
          have hgp : (gP ws pre d2 (p :: P) p)[dp]? = some (backW pre P) := by
            show (setG (gP ws pre d2 P) p (d2 p) (backW pre P) p)[dp]? = _
            unfold setG
            rw [if_pos rfl, hdp, List.getElem?_set_self (by rw [hgl]; exact l3)]
          rw [hgp] at hgf
          have HGFP := hide hgf
          have HSP := hide (fun x => HGS.out (gP ws pre d2 (p :: P)) p dp x (HGL.out d2 (p :: P)) l1 l3 (Sl l))
          have HOWN := hide (fun nd => show (wr.drewN nd).ownsMap Try.prog 3 (plainElem Try.prog 3) b nn2 D2 from (HS.out.drewN nd).get 2 rfl)
          have HPB := hide p4
          clear hS hS' b1 b4 hrow hat hnnb hsd hfl hdv hlt2 l2 l4 l5 hhp hu1 hu2 hatp hdp hgf hgl hgp g0 p1 p2 p3 p5 p6 p7
          go_wp2_with (first
            | (at_lookup
               refine wpList_lookup_at rfl _ _ rfl hown (plcN pre a : Int) (dv : Int) rfl rfl hwf HAT.out ?_))
          go_cut [9] (fun s9 wc => s9 = .pointer (some ⟨gw, plcN pre p + 1 + dp, none⟩) ∧ Sep F w wc [allI (ViI m ws pre (some ⟨gw, 0, none⟩) Ao nw cw b nn2 no co D2 (gP ws pre d2 (p :: P)) l)])
          case first =>
            have hlk0 := run_lookup_at hown (plcN pre p : Int) (dp : Int) hwfp HATP.out
            have hlk1 := run_lookup_at (w := wr.drew) (HOWN.out 1) (plcN pre p : Int) (dp : Int) hwfp HATP.out
            go_region_law (first
              | (try go_simp
                 go_at_call 79
                 first
                   | (with_reducible refine (CF.out 0).mono ?_
                      rintro e w6 ⟨A6, c6, rfl, hb6, hA6⟩
                      have hA7 := hA6 hplen
                      subst hA7
                      have hS6 := (HS.out.drewN 0).below hb6)
                   | (refine (CF.out 1).mono ?_
                      rintro e w6 ⟨A6, c6, rfl, hb6, hA6⟩
                      have hA7 := hA6 hplen
                      subst hA7
                      have hS6 := (HS.out.drewN 1).below hb6)
                   | (refine (CF.out 2).mono ?_
                      rintro e w6 ⟨A6, c6, rfl, hb6, hA6⟩
                      have hA7 := hA6 hplen
                      subst hA7
                      have hS6 := (HS.out.drewN 2).below hb6)
                 obtain ⟨z1, z2, z3, z4⟩ := hS6.rules 3 (g := m) (t := 145) rfl
                 (have z5 := z1 1)
                 (have own6 : w6.ownsMap Try.prog 3 (plainElem Try.prog 3) b nn2 D2 := hS6.get 2 rfl)
                 (have hlk6 := run_lookup_at own6 (plcN pre p : Int) (dp : Int) hwfp HATP.out)
                 (have HS6 := hide hS6)
                 clear z1 z4 hA6 hb6 hS6 own6))
            all_goals
              go_wp2_with fail
              go_meet
              case rel =>
                first
                  | exact ⟨rfl, HS6.out.fold⟩
                  | exact ⟨rfl, HS6.out.fold.drew⟩
                  | exact ⟨rfl, HS6.out.fold.drewN _⟩
                  | trace_state
          case rest =>
            obtain ⟨rfl, hS⟩ := hcut
            have hatp2 := HATP.out
            clear HS CF HOWN b2 b3 b5 b6 hown HATP K3
            have hS' := hS.flat
            have hrow : wc.ownsRow 0 24 1 (.slice (some ⟨gw, 0, none⟩) nw cw) nw (u64s (mkG ws pre (Sl l) (gP ws pre d2 (p :: P)))) := hS'.get 0 rfl
            have hpb := HPB.out
            have f0 : wc.cell? ⟨gw, plcN pre p + 1 + dp, none⟩ = some (.int .u64 (2 * (prevW pre P + 1))) := by
              rw [hrow.cellAt _ (by omega), u64s_get, HGFP.out, back_prev]; rfl
            have f1 := hrow.frozenAt (plcN pre p + 1 + dp)
            have CW := hide (way_any wc (prevW pre P) hbd.1 hbd.2)
            have W2 : IntKind.u64.wrap ((plcN pre a : Int) * 2) = 2 * (plcN pre a : Int) := by simp only [IntKind.wrap_u64]; omega
            have W1 : IntKind.i64.wrap ((dp : Int) + 1) = ((dp + 1 : Nat) : Int) := by simp only [IntKind.wrap_i64]; omega
            have hwf2 : (Lit.int .i64 ((dp + 1 : Nat) : Int)).wf = true := WalkArith.wf_i64 (by omega)
            have hS6 := hS'.store 0 (g := gw) (e := 24) (size := 1) (n := nw) (c := cw) (xs := u64s (mkG ws pre (Sl l) (gP ws pre d2 (p :: P)))) rfl (plcN pre p + 1 + dp) (.int .u64 (2 * (plcN pre a : Int)))
            rw [u64s_set, HSP.out, show setG (gP ws pre d2 (p :: P)) p dp (2 * (plcN pre a : Int)) = gP ws pre d2 P from by
              have h := gP_up (ws := ws) (pre := pre) (d := d2) (P := P) (p := p) (x := 2 * (plcN pre a : Int)) HL2.out (by rw [HDP.out]; exact HL4.out)
              rw [HDP.out] at h
              exact h] at hS6
            obtain ⟨b1, b2, b3, b4⟩ := hS6.rules 3 (g := m) (t := 145) rfl
            have b6 := b1 1
            have hown : (wc.setCell ⟨gw, plcN pre p + 1 + dp, none⟩ (.int .u64 (2 * (plcN pre a : Int)))).ownsMap Try.prog 3 (plainElem Try.prog 3) b nn2 D2 := hS6.get 2 rfl
            have HAT2 := hide hatp2
            have HS6 := hide hS6
            clear hS hS' hrow hpb hS6 b1 b4
            go_wp2_with fail
            refine CW.out.mono ?_
            rintro e w6 ⟨rfl, rfl⟩
            go_wp2_with (first
              | (at_lookup
                 refine wpList_lookup_at rfl _ _ rfl hown (plcN pre p : Int) (dp : Int) rfl rfl hwfp HAT2.out ?_)
              | (at_mapUpdate
                 refine wpList_mapUpdate_own _ rfl _ _ _ 117 rfl 3 3 (int_keyed Try.underlying3) Try.underlying117 _ b nn2 _ rfl hown (by unfold maxLen; omega) _ _ _ rfl rfl (keyOf_int_mk Try.underlying3 hwfp) _ [] (plainElem_int Try.underlying3 hwf2) ?_
                 intro w7 hown7 hgrow7
                 have hS7 := HS6.out.mapSet 2 rfl hown7 hgrow7
                 clear hgrow7 hown7))
            have HS8 := hide (show Sep F w w7 [allI (ViI m ws pre (some ⟨gw, 0, none⟩) Ao nw cw b (nn2 + 1) no co (D2.put (.int .i64 (plcN pre p)) (.lit (.int .i64 ((dp + 1 : Nat) : Int)))) (gP ws pre (incD d2 p) P) l)] from by
              have h := hS7.fold
              rw [gP_congr (d := incD d2 p) (d' := d2) (fun q hq => incD_other (fun e => HL2.out (e ▸ hq)))]
              exact h)
            have HU3 : Hid (VIn nw ws R P p (incD d2 p) (D2.put (.int .i64 (plcN pre p)) (.lit (.int .i64 ((dp + 1 : Nat) : Int)))) (nn2 + 1) l) := by
              have h := HU1.out
              rw [HDP.out] at h
              exact h
            clear hS7
            go_frame
            go_roundg (vMeas nw ws P p (incD d2 p) l)
            case measure => rw [HGK.out]; exact HU2.out
            case rel => exact ⟨P, p, incD d2 p, _, nn2 + 1, l, Ao, no, co, rfl, rfl, rfl, HU3, HNO, HS8.out⟩
end Go.Proofs.Ytpbafmdebflbpaa

namespace Go.Proofs.Ytpbafmdebflbpaa
open Go.RowKit

theorem walk_sound {gs : List (List Val)} {vs : List Val} (hg : ∀ fs ∈ gs, ValsOk gs.length fs) (f : Nat) : ∀ (K : List (List Val)) (l : List Int), wkM gs K l ≤ f → KOk gs.length K →
    (∀ us ∈ K, ∀ v ∈ us, v.1 = true → ∃ k, Lev gs vs k v.2) → (∀ x ∈ l, ∃ k, Lev gs vs k x) → ∀ x ∈ walkN gs K l, ∃ k, Lev gs vs k x := by
  induction f with
  | zero =>
    intro K l h hK hL hl
    cases K with
    | nil => rw [walkN_nil]; exact hl
    | cons us K => unfold wkM at h; rw [wkS_cons] at h; omega
  | succ f ih =>
    intro K l h hK hL hl
    cases K with
    | nil => rw [walkN_nil]; exact hl
    | cons us K =>
      cases us with
      | nil =>
        rw [walkN_pop]
        exact ih K l (by unfold wkM at h ⊢; rw [wkS_cons] at h; simp at h; omega) hK.pop (fun us hu => hL us (by simp [hu])) hl
      | cons v us =>
        by_cases hc : v.1 = true ∧ v.2 ∉ l
        · rw [walkN_push hg hK hc]
          obtain ⟨h0, h1⟩ := hK.head hc.1
          obtain ⟨k, hk⟩ := hL _ List.mem_cons_self v List.mem_cons_self hc.1
          refine ih (fieldsI gs v.2 :: us :: K) _ (by
            unfold wkM at h ⊢
            have := wkU_add (gs := gs) h0 h1 hc.2
            rw [wkS_cons] at h
            rw [wkS_cons, wkS_cons]
            simp only [List.length_cons] at h
            omega) (hK.push hg) (fun ws hw u hu hr => ?_) (fun x hx => ?_)
          · rcases List.mem_cons.1 hw with rfl | hw
            · obtain ⟨b, y⟩ := u
              dsimp only at hr
              subst hr
              exact ⟨k + 1, .step _ _ _ hk hu⟩
            · rcases List.mem_cons.1 hw with rfl | hw
              · exact hL _ List.mem_cons_self u (List.mem_cons_of_mem _ hu) hr
              · exact hL ws (by simp [hw]) u hu hr
          · rcases List.mem_append.1 hx with hx | hx
            · exact hl x hx
            · simp at hx; subst hx; exact ⟨k, hk⟩
        · rw [walkN_skip hg hK hc]
          refine ih (us :: K) l ?_ hK.skip (fun ws hw u hu hr => ?_) hl
          · unfold wkM at h ⊢
            rw [wkS_cons] at h ⊢
            simp only [List.length_cons] at h
            omega
          · rcases List.mem_cons.1 hw with rfl | hw
            · exact hL _ List.mem_cons_self u (List.mem_cons_of_mem _ hu) hr
            · exact hL ws (by simp [hw]) u hu hr
theorem walk_clo {gs : List (List Val)} (hg : ∀ fs ∈ gs, ValsOk gs.length fs) (f : Nat) : ∀ (K : List (List Val)) (l : List Int), wkM gs K l ≤ f → KOk gs.length K → OrdOk gs.length l →
    (∀ us ∈ K, ∀ v ∈ us, v.1 = true → v.2 ∈ walkN gs K l) ∧ (∀ x ∈ walkN gs K l, x ∈ l ∨ ∀ v ∈ fieldsI gs x, v.1 = true → v.2 ∈ walkN gs K l) := by
  induction f with
  | zero =>
    intro K l h hK hO
    cases K with
    | nil => rw [walkN_nil]; exact ⟨by simp, fun x hx => .inl hx⟩
    | cons us K => unfold wkM at h; rw [wkS_cons] at h; omega
  | succ f ih =>
    intro K l h hK hO
    cases K with
    | nil => rw [walkN_nil]; exact ⟨by simp, fun x hx => .inl hx⟩
    | cons us K =>
      cases us with
      | nil =>
        rw [walkN_pop]
        obtain ⟨i1, i2⟩ := ih K l (by unfold wkM at h ⊢; rw [wkS_cons] at h; simp at h; omega) hK.pop hO
        refine ⟨fun us hu v hv hr => ?_, i2⟩
        rcases List.mem_cons.1 hu with rfl | hu
        · simp at hv
        · exact i1 us hu v hv hr
      | cons v us =>
        by_cases hc : v.1 = true ∧ v.2 ∉ l
        · rw [walkN_push hg hK hc]
          obtain ⟨h0, h1⟩ := hK.head hc.1
          have hO2 : OrdOk gs.length (l ++ [v.2]) := hO.snoc2 hc.2 ⟨h0, h1⟩
          have hM : wkM gs (fieldsI gs v.2 :: us :: K) (l ++ [v.2]) ≤ f := by
            unfold wkM at h ⊢
            have := wkU_add (gs := gs) h0 h1 hc.2
            rw [wkS_cons] at h
            rw [wkS_cons, wkS_cons]
            simp only [List.length_cons] at h
            omega
          obtain ⟨i1, i2⟩ := ih (fieldsI gs v.2 :: us :: K) _ hM (hK.push hg) hO2
          have hp := (walkN_pre hg f _ _ hM (hK.push hg) hO2).1
          refine ⟨fun ws hw u hu hr => ?_, fun x hx => ?_⟩
          · rcases List.mem_cons.1 hw with rfl | hw
            · rcases List.mem_cons.1 hu with rfl | hu
              · exact hp.subset (by simp)
              · exact i1 us (by simp) u hu hr
            · exact i1 ws (by simp [hw]) u hu hr
          · rcases i2 x hx with h3 | h3
            · rcases List.mem_append.1 h3 with h4 | h4
              · exact .inl h4
              · simp at h4; subst h4
                exact .inr fun u hu hr => i1 _ List.mem_cons_self u hu hr
            · exact .inr h3
        · rw [walkN_skip hg hK hc]
          have hM : wkM gs (us :: K) l ≤ f := by
            unfold wkM at h ⊢
            rw [wkS_cons] at h ⊢
            simp only [List.length_cons] at h
            omega
          obtain ⟨i1, i2⟩ := ih (us :: K) l hM hK.skip hO
          have hp := (walkN_pre hg f _ _ hM hK.skip hO).1
          refine ⟨fun ws hw u hu hr => ?_, i2⟩
          rcases List.mem_cons.1 hw with rfl | hw
          · rcases List.mem_cons.1 hu with rfl | hu
            · refine hp.subset ?_
              by_cases h5 : u.2 ∈ l
              · exact h5
              · exact absurd ⟨hr, h5⟩ hc
            · exact i1 us (by simp) u hu hr
          · exact i1 ws (by simp [hw]) u hu hr
/-- A walk from all roots comes to what can be come to. -/
theorem mem_walk {gs : List (List Val)} {vs : List Val} (hg : ∀ fs ∈ gs, ValsOk gs.length fs) (hv : ValsOk gs.length vs) (x : Int) : x ∈ walkN gs [vs] [] ↔ ∃ k, Lev gs vs k x := by
  have hK : KOk gs.length [vs] := fun us hu => by simp at hu; subst hu; exact hv
  obtain ⟨c1, c2⟩ := walk_clo hg _ [vs] [] (Nat.le_refl _) hK (OrdOk.nil _)
  constructor
  · exact walk_sound hg _ [vs] [] (Nat.le_refl _) hK (fun us hu v hv1 hr => by
      simp at hu; subst hu
      obtain ⟨b, y⟩ := v
      dsimp only at hr
      subst hr
      exact ⟨0, .root _ hv1⟩) (by simp) x
  · rintro ⟨k, hk⟩
    induction hk with
    | root i hi => exact c1 vs (by simp) _ hi rfl
    | step k i j _ hj ih =>
      rcases c2 i ih with h1 | h1
      · simp at h1
      · exact h1 _ hj rfl
/-- The marks in the end. -/
theorem walk_marks {nW : Nat} {ws rs : List Int} (hgr : ∀ x ∈ rs, GoodW (parse nW ws 0).1 x) (hgf : ∀ x ∈ fieldsOf ws (parse nW ws 0).1, GoodW (parse nW ws 0).1 x) :
    mkG ws (parse nW ws 0).1 (Sl (walkN (graphOf ws (parse nW ws 0).1) [rs.map (turnW (ixOf (parse nW ws 0).1))] [])) (fldN ws (parse nW ws 0).1) = mkW ws (parse nW ws 0).1 (refS nW ws rs) := by
  rw [← mkW_mkG]
  refine mkW_congr ws _ fun i hi => ?_
  have hv : ValsOk (graphOf ws (parse nW ws 0).1).length (rs.map (turnW (ixOf (parse nW ws 0).1))) := by rw [graph_len]; exact good_vals hgr
  unfold Sl refS
  rw [decide_eq_decide, mem_walk (graph_ok hgf) hv, mem_reachR (graph_ok hgf) hv]
/-- One root more. -/
theorem walk_root {nW : Nat} {ws rs l R : List Int} {j : Nat} {x : Int} (hgr : ∀ x ∈ rs, GoodW (parse nW ws 0).1 x) (hgf : ∀ x ∈ fieldsOf ws (parse nW ws 0).1, GoodW (parse nW ws 0).1 x) (hj : rs.drop j = x :: rs.drop (j + 1))
    (h : walkN (graphOf ws (parse nW ws 0).1) [(rs.drop j).map (turnW (ixOf (parse nW ws 0).1))] l = R) :
    (unR x = false ∨ (ixOf (parse nW ws 0).1 (unA x) : Int) ∈ l → walkN (graphOf ws (parse nW ws 0).1) [(rs.drop (j + 1)).map (turnW (ixOf (parse nW ws 0).1))] l = R) ∧
    (unR x = true → (ixOf (parse nW ws 0).1 (unA x) : Int) ∉ l → walkN (graphOf ws (parse nW ws 0).1) [(rs.drop (j + 1)).map (turnW (ixOf (parse nW ws 0).1))] (walkN (graphOf ws (parse nW ws 0).1) [fieldsI (graphOf ws (parse nW ws 0).1) (ixOf (parse nW ws 0).1 (unA x) : Int)] (l ++ [(ixOf (parse nW ws 0).1 (unA x) : Int)])) = R) := by
  have hd : ∀ y ∈ rs.drop j, GoodW (parse nW ws 0).1 y := fun y hy => hgr y (List.mem_of_mem_drop hy)
  have hv : ValsOk (graphOf ws (parse nW ws 0).1).length ((rs.drop j).map (turnW (ixOf (parse nW ws 0).1))) := by rw [graph_len]; exact good_vals hd
  have hK : KOk (graphOf ws (parse nW ws 0).1).length [(rs.drop j).map (turnW (ixOf (parse nW ws 0).1))] := fun us hu => by simp at hu; subst hu; simpa using hv
  rw [hj, List.map_cons] at h hK hv
  refine ⟨fun hc => ?_, fun hr hc => ?_⟩
  · rw [walkN_skip (graph_ok hgf) hK (by
      rintro ⟨h1, h2⟩
      have hr : unR x = true := h1
      rcases hc with hc | hc
      · rw [hc] at hr; cases hr
      · unfold turnW at h2
        rw [hr] at h2
        exact h2 hc)] at h
    exact h
  · have ht : turnW (ixOf (parse nW ws 0).1) x = (true, (ixOf (parse nW ws 0).1 (unA x) : Int)) := by unfold turnW; rw [hr]; rfl
    rw [ht] at h hK
    rw [walkN_push (graph_ok hgf) hK ⟨rfl, hc⟩] at h
    rw [← h]
    exact (walkN_app (graph_ok hgf) _ [fieldsI (graphOf ws (parse nW ws 0).1) (ixOf (parse nW ws 0).1 (unA x) : Int)] [(rs.drop (j + 1)).map (turnW (ixOf (parse nW ws 0).1))] _ (Nat.le_refl _) (hK.push (graph_ok hgf))).symm
end Go.Proofs.Ytpbafmdebflbpaa
