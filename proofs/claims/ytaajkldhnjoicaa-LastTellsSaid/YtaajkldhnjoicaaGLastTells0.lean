/- Maps of marks: a number's mark is 1. Last: whether a list names no objects; what an object leads to. Last: the program's. -/
import Derived.Maps.OwnOps
import Derived.Maps.OwnSet
import Derived.Maps.RangeWalk
import Derived.Test.YtaajkldhnjoicaaGTrialTells2
import Derived.Deep.RegionHeld3
set_option linter.unusedSimpArgs false
set_option linter.unusedVariables false
namespace Go.Proofs.Ytaajkldhnjoicaa
open Go.RowKit Go.Maps

/-- A map from numbers to numbers, of the call's own. -/
def imI (b n : Nat) (D : DataW Unit) : Item where
  fp k := k = b
  P w := w.ownsMap Try.prog 3 (plainElem Try.prog 3) b n D
  dom w h k hk := by subst hk; exact World.ownsMap.lt h
  loc w w' _ hk h := by obtain ⟨es, clock, hb, r⟩ := h; exact ⟨es, clock, (hk b rfl).trans hb, r⟩
/-- A loop over such a map that is under way. -/
def rgI (b r n : Nat) (D : DataW Unit) (left : Lit → Bool) (cnt : Nat) : Item where
  fp k := k = b ∨ k = r
  P w := w.ranges Try.prog 3 (plainElem Try.prog 3) b r n D left cnt
  dom w h k hk := by
    rcases hk with rfl | rfl
    · exact World.ownsMap.lt (World.ranges.owns h)
    · exact World.ranges.lt h
  loc w w' _ hk h := by
    have h1 := hk b (.inl rfl)
    have h2 := hk r (.inr rfl)
    unfold World.ranges at h ⊢
    rw [h1, h2]
    exact h
theorem mapI_tame (B b n : Nat) (D : DataW Unit) (h : b < B) : Tame B (imI b n D) := Tame.of_lt fun k hk => by rw [show k = b from hk]; exact h

def mkD (l : List Int) : DataW Unit := l.foldl (fun D x => D.put (.int .i64 x) (.lit (.int .i64 1))) (.map [])
theorem mkD_snoc (l : List Int) (x : Int) : mkD (l ++ [x]) = (mkD l).put (.int .i64 x) (.lit (.int .i64 1)) := by simp [mkD]
theorem mkD_nil : mkD [] = .map [] := rfl
theorem lit_ne {x y : Int} (h : x ≠ y) : (Lit.int .i64 x) ≠ .int .i64 y := fun e => by injection e with _ e; exact h e
theorem mkD_tidy (l : List Int) : Maps.Tidy (mkD l) := by
  have key : ∀ (l : List Int) (D : DataW Unit), Maps.Tidy D → Maps.Tidy (l.foldl (fun D x => D.put (.int .i64 x) (.lit (.int .i64 1))) D) := by
    intro l
    induction l with
    | nil => exact fun _ h => h
    | cons a l ih => exact fun D h => ih _ (h.put (k := Lit.int .i64 a) trivial _)
  exact key l _ Maps.tidy_empty
theorem snoc_ind {P : List Int → Prop} (h0 : P []) (h1 : ∀ l x, P l → P (l ++ [x])) (l : List Int) : P l := by
  have key : ∀ r : List Int, P r.reverse := by
    intro r
    induction r with
    | nil => exact h0
    | cons a r ih => rw [List.reverse_cons]; exact h1 _ _ ih
  have := key l.reverse
  rwa [List.reverse_reverse] at this
theorem mkD_at (l : List Int) (x : Int) (z : DataW Unit) : (mkD l).atKey (.int .i64 x) z = if x ∈ l then .lit (.int .i64 1) else z := by
  induction l using snoc_ind with
  | h0 => rfl
  | h1 l y ih =>
    rw [mkD_snoc]
    by_cases e : x = y
    · subst e
      rw [atKey_put_same (k := Lit.int .i64 x) (mkD_tidy l).isMap trivial, if_pos (by simp)]
    · rw [atKey_put_other (lit_ne e), ih]
      by_cases h2 : x ∈ l
      · rw [if_pos h2, if_pos (by simp [h2])]
      · rw [if_neg h2, if_neg (by simp [h2, e])]
theorem mkD_has (l : List Int) (x : Int) : Maps.has (mkD l) (.int .i64 x) = decide (x ∈ l) := by
  induction l using snoc_ind with
  | h0 => rfl
  | h1 l y ih =>
    rw [mkD_snoc]
    by_cases e : x = y
    · subst e
      rw [has_put_same (k := Lit.int .i64 x) (mkD_tidy l).isMap trivial]; simp
    · rw [has_put_other (lit_ne e), ih]; simp [e]
theorem mkD_size (l : List Int) : Maps.size (mkD l) ≤ l.length := by
  induction l using snoc_ind with
  | h0 => exact Nat.le_refl _
  | h1 l y ih =>
    rw [mkD_snoc, Maps.size_put (mkD_tidy l), List.length_append, List.length_singleton]
    split <;> omega

set_option maxRecDepth 100000 in
theorem Sep.imUpd {F : Nat → Prop} {W w : World} {items : List Item} (hS : Sep F W w items) (k : Nat) {b n : Nat} {D : DataW Unit} (hk : items[k]? = some (imI b n D)) (hn : n < maxLen) (y z : Int) (hy : (Lit.int .i64 y).wf = true) (hz : (Lit.int .i64 z).wf = true) :
    ∃ w', (Instr.mapUpdate 108 (.map (some b)) (.int .i64 y) (.int .i64 z)).run Try.prog w = .ok () w' ∧ Sep F W w' (items.set k (imI b (n + 1) (D.put (.int .i64 y) (.lit (.int .i64 z))))) ∧ Chg (fun g => g = b) w w' := by
  have hown : w.ownsMap Try.prog 3 (plainElem Try.prog 3) b n D := hS.get k hk
  obtain ⟨w', hrun, r1, r2⟩ := hown.update (int_keyed Try.underlying3) Try.underlying108 hn (keyOf_int_mk Try.underlying3 hy) (plainElem_int Try.underlying3 hz)
  have hc : Chg (fun g => g = b) w w' := (Chg.of_grown r2).mono (fun g hx => .inl (by injection hx with hx; exact hx.symm))
  exact ⟨w', hrun, hS.step k hk hc (imI b (n + 1) (D.put (.int .i64 y) (.lit (.int .i64 z)))) r1 (fun g hg => .inl hg), hc⟩
set_option maxRecDepth 100000 in
theorem wpList_imUpd {w : World} {ops : Array Oper} {rest : List Oper} {o : Oper} {a : Act} {Q : Exit → Act → World → Prop} (hgd : o.guard = none) (m x v : Operand) (hop : o.op = Op.mapUpdate 108 m x v)
    {F : Nat → Prop} {W : World} {items : List Item} (hS : Sep F W w items) (k : Nat) {b n : Nat} {D : DataW Unit} (hk : items[k]? = some (imI b n D)) (hn : n < maxLen) (y z : Int) (hm : a.eval m = .map (some b)) (hx : a.eval x = .int .i64 y) (hv : a.eval v = .int .i64 z)
    (hy : (Lit.int .i64 y).wf = true) (hz : (Lit.int .i64 z).wf = true) (h : ∀ w', Sep F W w' (items.set k (imI b (n + 1) (D.put (.int .i64 y) (.lit (.int .i64 z))))) → wpList Try.prog ops Q rest (a.put o.dst undef) w') : wpList Try.prog ops Q (o :: rest) a w :=
  wpList_plain hgd fun K hK => by
    obtain ⟨w', hrun, hS', _⟩ := hS.imUpd k hk hn y z hy hz
    unfold Oper.wp
    simp [execOp, hop, hm, hx, hv, hrun, Result.andThen]
    exact hK _ _ (h w' hS')
theorem zeroI_ (w : World) : (zeroValue 3).run Try.prog w = .ok (.int .i64 0) w := by kernel_rfl
set_option maxRecDepth 100000 in
theorem run_lookupI {w : World} {b n : Nat} {D : DataW Unit} (hown : w.ownsMap Try.prog 3 (plainElem Try.prog 3) b n D) (y z : Int) (hy : (Lit.int .i64 y).wf = true) (hz : D.atKey (.int .i64 y) (.lit (.int .i64 0)) = .lit (.int .i64 z)) : (Instr.lookup 108 (.map (some b)) (.int .i64 y) false).run Try.prog w = .ok (.int .i64 z) w := by
  obtain ⟨c, hrun, hat, hwc⟩ := hown.lookup_int (int_keyed Try.underlying3) Try.underlying108 Try.underlying3 (zeroI_ w) (keyOf_int_mk Try.underlying3 hy)
  obtain rfl : c = z := by
    have h9 := hz.symm.trans hat
    injection h9 with h9; injection h9 with _ h9; exact h9.symm
  exact hrun
set_option maxRecDepth 100000 in
theorem run_lookup_mk {w : World} {b n : Nat} {l : List Int} (hown : (imI b n (mkD l)).P w) (y : Int) (hy : (Lit.int .i64 y).wf = true) : (Instr.lookup 108 (.map (some b)) (.int .i64 y) false).run Try.prog w = .ok (.int .i64 (if y ∈ l then 1 else 0)) w :=
  run_lookupI hown y _ hy (by rw [mkD_at]; split <;> rfl)
/-- A new map. -/
theorem Sep.imNew {F : Nat → Prop} {W w : World} {items : List Item} (hS : Sep F W w items) {g : Nat} (hg : w.heap.size = g) : Sep F W (w.alloc (.map #[] 0)) (items ++ [imI g 0 (mkD [])]) := by
  subst hg
  exact hS.snocNew ((Below.refl _ w).alloc (Nat.le_refl _) _) (imI w.heap.size 0 (mkD [])) (World.ownsMap_made _ _ _ _) (fun g hg => by rw [show g = w.heap.size from hg]; exact Nat.le_refl _)
/-- A loop over the map begins. -/
theorem wpList_rgBegin {w : World} {ops : Array Oper} {rest : List Oper} {o : Oper} {a : Act} {Q : Exit → Act → World → Prop} (hgd : o.guard = none) (m : Operand) (hop : o.op = Op.range 108 m)
    {F : Nat → Prop} {W : World} {items : List Item} (hS : Sep F W w items) (k : Nat) {b n : Nat} {D : DataW Unit} (hk : items[k]? = some (imI b n D)) (hm : a.eval m = .map (some b))
    (h : ∀ w', Sep F W w' (items.set k (rgI b w.heap.size n D (Maps.has D) (Maps.size D))) → w'.heap.size = w.heap.size + 1 → wpList Try.prog ops Q rest (a.put o.dst (.pointer (some ⟨w.heap.size, 0, none⟩))) w') : wpList Try.prog ops Q (o :: rest) a w := by
  refine wpList_range_own w hgd m 108 hop 3 3 (int_keyed Try.underlying3) Try.underlying108 _ b n D hm (hS.get k hk) ?_
  intro w' h1 h2 h3
  exact h w' (hS.step k hk ((Chg.of_grown h2).mono (fun g hx => by cases hx)) (rgI b w.heap.size n D (Maps.has D) (Maps.size D)) h1 (fun g hg => by
    rcases hg with hg | hg
    · exact .inl hg
    · exact .inr (by omega))) h3
/-- The loop's step. -/
theorem wpList_rgNext {w : World} {ops : Array Oper} {rest : List Oper} {o : Oper} {a : Act} {Q : Exit → Act → World → Prop} (hgd : o.guard = none) (it : Operand) (hop : o.op = Op.next it false)
    {F : Nat → Prop} {W : World} {items : List Item} (hS : Sep F W w items) (k : Nat) {b r n cnt : Nat} {D : DataW Unit} {left : Lit → Bool} (hk : items[k]? = some (rgI b r n D left cnt)) (hit : a.eval it = .pointer (some ⟨r, 0, none⟩))
    (hDone : cnt = 0 → (∀ kl, left kl = false) → wpList Try.prog ops Q rest (a.put o.dst (.tuple #[.bool false])) w)
    (hMore : ∀ (x c : Int) (w' : World) (cnt' : Nat), (Lit.int .i64 x).wf = true → left (.int .i64 x) = true → cnt' < cnt → (∀ zd, D.atKey (.int .i64 x) zd = .lit (.int .i64 c)) →
      Sep F W w' (items.set k (rgI b r n D (fun z => left z && !z.sameKey (.int .i64 x)) cnt')) → w'.heap.size = w.heap.size → (Instr.entry (.pointer (some ⟨r, 0, none⟩))).run Try.prog w' = .ok (.tuple #[.int .i64 x, .int .i64 c]) w' → wpList Try.prog ops Q rest (a.put o.dst (.tuple #[.bool true, .int .i64 x, .int .i64 c])) w') :
    wpList Try.prog ops Q (o :: rest) a w := by
  refine wpList_next_ranges_ii w hgd it hop 3 3 .i64 .i64 (int_keyed Try.underlying3) Try.underlying3 Try.underlying3 b r n D left cnt hit (hS.get k hk) hDone ?_
  intro x c w' cnt' h1 h2 h3 h4 h5 h6 h7 h8 h9
  exact hMore x c w' cnt' h1 h3 h6 h4 (hS.step k hk ((Chg.of_grown h7).mono (fun g hx => .inl (.inr (by injection hx with hx; exact hx.symm)))) _ h5 (fun g hg => .inl hg)) h8 h9
/-- The map of a loop that has ended. -/
theorem rgI_owns {w : World} {b r n cnt : Nat} {D : DataW Unit} {left : Lit → Bool} (h : (rgI b r n D left cnt).P w) : (imI b n D).P w := World.ranges.owns h

theorem rgI_left {w : World} {b r n cnt : Nat} {D : DataW Unit} {left : Lit → Bool} (h : (rgI b r n D left cnt).P w) : w.rangeLeft b r = cnt := World.ranges.left_eq h

/-! ### What can be come to by at least one reference. -/
section
variable {gs : List (List Val)} {n : Nat}
theorem Lev.shift {vs : List Val} {m : Int} {k : Nat} {y : Int} (h : Lev gs (fieldsI gs m) k y) (hm : (true, m) ∈ vs) : Lev gs vs (k + 1) y := by
  induction h with
  | root y h => exact .step 0 m y (.root m hm) h
  | step k x y _ h ih => exact .step (k + 1) x y ih h
theorem lev_via (hv : ∀ x : Int, ValsOk n (fieldsI gs x)) (x y : Int) : (∃ k, Lev gs (fieldsI gs x) k y) ↔ Via gs n x y := by
  constructor
  · rintro ⟨k, h⟩
    induction h with
    | root y h => exact .edge _ _ h
    | step k z y _ h ih =>
      refine ih.trans ?_ (.edge _ _ h)
      have hz : z < (n : Int) := by
        cases ih with
        | edge _ _ h1 => exact (hv _ _ h1 rfl).2
        | step _ m _ _ _ h1 =>
          have key : ∀ {a b : Int}, Via gs n a b → b < (n : Int) := by
            intro a b hab
            induction hab with
            | edge _ _ h1 => exact (hv _ _ h1 rfl).2
            | step _ _ _ _ _ _ ih => exact ih
          exact key h1
      exact hz
  · intro h
    induction h with
    | edge i j h => exact ⟨0, .root _ h⟩
    | step i m j h _ _ ih => obtain ⟨k, hk⟩ := ih; exact ⟨k + 1, hk.shift h⟩
end
end Go.Proofs.Ytaajkldhnjoicaa

namespace Go.Proofs.Ytaajkldhnjoicaa
open Go.RowKit

def badI (nO : Nat) (x : Int) : Bool := decide (x < 0) || decide ((nO : Int) ≤ x)
set_option maxHeartbeats 400000 in
theorem lastBad_any (w : World) (Bg nO cO nR cR : Nat) (AO AR : Option Addr) (x : Int) (hB : Blk w Bg 25 #[.slice AO nO cO, .slice AR nR cR]) : Calls Try.prog 75 #[.int .i64 x, .pointer (some ⟨Bg, 0, none⟩)] w fun e w' => e = .returned (.bool (badI nO x)) ∧ w' = w := by
  obtain ⟨a1, a2, a3⟩ := hB.rules
  have a5 := a1 0
  unfold badI
  by_cases h1 : x < 0
  · have t1 : decide (x < 0) = true := by simp [h1]
    clear h1
    go_enter Try.func75, Try.ntmps75
    go_wp2_with fail
    go_ret
    exact ⟨ret_bool (by rw [t1]; rfl), rfl⟩
  · have t1 : decide (x < 0) = false := by simp only [h1, decide_false]
    clear h1
    go_enter Try.func75, Try.ntmps75
    go_wp2_with fail
    go_ret
    exact ⟨ret_bool (by rw [t1]; rfl), rfl⟩
set_option maxHeartbeats 800000 in
theorem lastIndex_any (w : World) (A : Option Addr) (n c Bg nO cO nR cR : Nat) (AO AR : Option Addr) (l : List Int) (hn : n ≤ 1000) (h : Rd w (fun _ => True) 1 A n (ints l)) (hB : Blk w Bg 25 #[.slice AO nO cO, .slice AR nR cR]) :
    Calls Try.prog 120 #[.slice A n c, .func (.func 75) #[] #[.pointer (some ⟨Bg, 0, none⟩)]] w fun e w' => (∃ r : Int, e = .returned (.int .i64 r) ∧ (0 ≤ r ↔ ∃ x ∈ l, badI nO x = true)) ∧ w' = w := by
  have HL := hide (show l.length = n by have := h.1; simpa using this)
  have HB := hide hB
  clear hB
  go_enter Try.func120, Try.ntmps120
  go_wp2_with fail
  go_loop [5, 8] (fun _ i => ∃ k : Nat, k ≤ n ∧ i = .int .i64 k ∧ Hid (∀ t ∈ l.take k, badI nO t = false)) (fun _ i => n - (intOf i).toNat)
  case atStart => exact ⟨0, by omega, rfl, by simp [Hid]⟩
  case round =>
    obtain ⟨k, hk, rfl, hnot⟩ := hrel
    by_cases hlt : k < n
    · obtain ⟨ad, rfl, _, _, hc⟩ := h.at_ hlt
      have hkl : k < l.length := by rw [HL.out]; exact hlt
      have hcell := hc _ (ints_get' l k hkl)
      have HM := hide (List.getElem_mem hkl)
      have HT := hide (List.take_succ_eq_append_getElem hkl)
      obtain ⟨x, hx⟩ : ∃ x, l[k] = x := ⟨_, rfl⟩
      rw [hx] at hcell HM HT
      clear hc hx
      go_wp2_with fail
      refine (lastBad_any _ Bg nO cO nR cR AO AR x HB.out).mono ?_
      rintro e w1 ⟨rfl, rfl⟩
      cases hq : badI nO x with
      | true =>
        have HQ := hide hq
        clear hq
        go_wp2_with fail
        go_ret
        exact ⟨⟨k, rfl, ⟨fun _ => ⟨x, HM.out, HQ.out⟩, fun _ => by omega⟩⟩, rfl⟩
      | false =>
        have HQ := hide hq
        clear hq
        go_wp2_with fail
        go_round
        case rel => exact ⟨k + 1, by omega, by go_num, by
          have h1 := hnot.out
          have h2 := HQ.out
          show ∀ t ∈ l.take (k + 1), badI nO t = false
          rw [HT.out]
          intro t ht
          rcases List.mem_append.1 ht with h3 | h3
          · exact h1 t h3
          · simp only [List.mem_singleton] at h3; subst h3; exact h2⟩
        case measure => simp [intOf]; omega
    · go_wp2_with fail
      go_ret
      have h1 := hnot.out
      rw [List.take_of_length_le (by rw [HL.out]; omega)] at h1
      exact ⟨⟨-1, rfl, ⟨fun h => by omega, fun ⟨t, ht, htx⟩ => by rw [h1 t ht] at htx; cases htx⟩⟩, rfl⟩
theorem lastContains_any (w : World) (A : Option Addr) (n c Bg nO cO nR cR : Nat) (AO AR : Option Addr) (l : List Int) (hn : n ≤ 1000) (h : Rd w (fun _ => True) 1 A n (ints l)) (hB : Blk w Bg 25 #[.slice AO nO cO, .slice AR nR cR]) :
    Calls Try.prog 74 #[.slice A n c, .func (.func 75) #[] #[.pointer (some ⟨Bg, 0, none⟩)]] w fun e w' => e = .returned (.bool (l.any (badI nO))) ∧ w' = w := by
  go_enter Try.func74, Try.ntmps74
  go_wp2_with fail
  refine (lastIndex_any w A n c Bg nO cO nR cR AO AR l hn h hB).mono ?_
  rintro e w1 ⟨⟨r, rfl, hr⟩, rfl⟩
  have HB := hide (show l.any (badI nO) = decide (0 ≤ r) by
    rw [Bool.eq_iff_iff]; simp only [List.any_eq_true, decide_eq_true_eq]; exact hr.symm)
  clear hr
  go_wp2_with fail
  go_ret
  exact ⟨ret_bool HB.out.symm, rfl⟩

set_option maxRecDepth 100000 in
set_option maxHeartbeats 4000000 in
theorem leads_any (w : World) (AO AR : Option Addr) (nO cO nR cR i : Nat) (obs : List Ob) (gs : List (List Val)) (hO : ObsRd w (fun _ => True) AO nO obs) (h3 : obs.map Ob.fields = gs) (hn : nO ≤ 24) (hfl : ∀ o ∈ obs, o.n ≤ 4) (hvg : ∀ fs ∈ gs, ValsOk gs.length fs) (hi : i < nO) :
    Calls Try.prog 77 #[.agg #[.slice AO nO cO, .slice AR nR cR], .int .i64 i] w fun e w' => ∃ A n c l, e = .returned (.slice A n c) ∧ n = l.length ∧ n ≤ 24 ∧ (∀ y, y ∈ l ↔ Via gs nO i y) ∧ (∀ y ∈ l, 0 ≤ y ∧ y < (nO : Int)) ∧ Sep No w w' [rowI 3 1 A n c (ints l)] := by
  have hS0 := (Sep.nil No w).blkAt 25 #[.slice AO nO cO, .slice AR nR cR] rfl
  obtain ⟨a1, a2, a3, a4⟩ := hS0.rules 0 (g := w.heap.size) (t := 25) rfl
  have a5 := (a1 0).trans (show _ = some (.slice AO nO cO) from rfl)
  have a6 := (a1 1).trans (show _ = some (.slice AR nR cR) from rfl)
  obtain ⟨ad, o, hAO, _, had, e0, hrd, hfi, ho4, hofl⟩ := ob_at (hO.below hS0.below_) h3 hfl hi
  have hgl : gs.length = nO := by rw [← h3, List.length_map]; exact hO.len
  have hvo : ValsOk gs.length o.fields := by rw [← hfi]; exact fieldsI_ok hvg _
  obtain ⟨e1, e2⟩ := fndAll_eq hvg hvo
  have C := hide (fun w' (hb : Below w.heap.size w w') (hb2 : Below (w.alloc (.cells #[.slice AO nO cO, .slice AR nR cR] 25)).heap.size (w.alloc (.cells #[.slice AO nO cO, .slice AR nR cR] 25)) w') => found_any w' AO o.A nO cO o.n o.c obs o.fields gs h3 (hO.below hb) (hrd.below hb2) (by omega) (by omega) (fun o ho => by have := hfl o ho; omega) hvg hvo)
  rw [e1, e2] at C
  have hL := order_ok hvg hvo
  have HLL := hide (show (order gs o.fields).length ≤ 24 by have := hL.len; omega)
  have HRG := hide (fun y hy => hL.rng y hy)
  have HV := hide (fun y => (mem_order hvg hvo y).trans (show _ ↔ Via gs nO i y from by
    have h := lev_via (gs := gs) (n := nO) (fun x => by rw [← hgl]; exact fieldsI_ok hvg x) (i : Int) y
    rw [hfi] at h
    exact h))
  rw [hgl] at HRG
  obtain ⟨L, hLL⟩ : ∃ L, order gs o.fields = L := ⟨_, rfl⟩
  rw [hLL] at HLL HRG HV C
  generalize distR gs o.fields = DL at C
  have HS0 := hide hS0
  have hi1 : (i : Int) < (nO : Int) := by omega
  have hi0 : (0 : Int) ≤ (i : Int) := by omega
  subst hAO
  clear hL hLL hgl hvo e1 e2 hS0 a1 a4 hrd hfi hofl
  go_enter Try.func77, Try.ntmps77
  go_wp2_with fail
  obtain ⟨w0, hw0⟩ : ∃ x, w.alloc (.cells #[.slice (some ad) nO cO, .slice AR nR cR] 25) = x := ⟨_, rfl⟩
  rw [hw0] at a5 a6 e0 C HS0 had a2 a3 ⊢
  clear hw0
  have C2 := hide (C.out w0.drew HS0.out.drew.below_ (Below.refl _ _).drew)
  go_region_held3 (fun w' => w'.cell? ⟨w.heap.size, 0, none⟩ = some (.slice (some ad) nO cO) ∧ w'.cell? (ad.add i) = some (.slice o.A o.n o.c)) (go_keep)
    ((go_at_call 76; (with_reducible refine C2.out.mono ?_); rintro e w5 ⟨A, n, c, A2, c2, rfl, hP⟩; have k1 : w5.cell? ⟨w.heap.size, 0, none⟩ = some (.slice (some ad) nO cO) := (((HS0.out.drew.below hP.below_).rules 0 (g := w.heap.size) (t := 25) rfl).1 0).trans rfl; have k2 : w5.cell? (ad.add i) = some (.slice o.A o.n o.c) := (World.cell?_of_block (a := ad.add i) (by rw [block_of_add]; exact hP.below_.block _ had)).trans e0; have HP := hide hP; clear hP))
  all_goals
    have hnl : n = L.length := by have := (HP.out.rd_ 0 rfl).1; simpa using this.symm
    have HS5 := hide (Sep.call0 HS0.out.drew HP.out)
    have HNL := hide hnl
    clear HP hnl C C2
    go_wp2_with fail
    go_ret
    exact ⟨A, n, c, L, rfl, HNL.out, by have := HNL.out; have := HLL.out; omega, HV.out, HRG.out, HS5.out.sub (by simp)⟩
end Go.Proofs.Ytaajkldhnjoicaa

namespace Go.Proofs.Ytaajkldhnjoicaa
open Go.RowKit Go.Maps

/-! ### Plain. -/
def lostL (d : List Int) (ws : List Int) : List Int := ws.filter fun y => decide (d.getD y.toNat 0 < 0)
theorem lostL_snoc (d ws : List Int) (x : Int) : lostL d (ws ++ [x]) = if d.getD x.toNat 0 < 0 then lostL d ws ++ [x] else lostL d ws := by
  unfold lostL
  rw [List.filter_append]
  by_cases e : d.getD x.toNat 0 < 0
  · rw [if_pos e, List.filter_cons_of_pos (by simpa using e)]; rfl
  · rw [if_neg e, List.filter_cons_of_neg (by simpa using e)]; simp
theorem mem_lostL {d ws : List Int} {x : Int} : x ∈ lostL d ws ↔ x ∈ ws ∧ d.getD x.toNat 0 < 0 := by unfold lostL; simp
def LDone (L : List Int) (left : Lit → Bool) (x : Int) : Prop := x ∈ L ∧ left (.int .i64 x) = false
structure LaI (gs : List (List Val)) (n : Nat) (d L : List Int) (left : Lit → Bool) (S H : List Int) : Prop where
  s : ∀ y, y ∈ S ↔ ∃ x, LDone L left x ∧ (y = x ∨ (Via gs n x y ∧ d.getD y.toNat 0 < 0))
  h : ∀ y, y ∈ H ↔ ∃ x, LDone L left x ∧ Via gs n x y ∧ y ≠ x
section
variable {gs : List (List Val)} {n : Nat} {d L : List Int} {left : Lit → Bool} {S H : List Int}
theorem LaI.start : LaI gs n d L (Maps.has (mkD L)) [] [] := by
  have h0 : ∀ x, ¬ LDone L (Maps.has (mkD L)) x := fun x ⟨h1, h2⟩ => by rw [mkD_has] at h2; simp at h2; exact h2 h1
  exact ⟨fun y => ⟨fun h => by simp at h, fun ⟨x, h, _⟩ => (h0 x h).elim⟩, fun y => ⟨fun h => by simp at h, fun ⟨x, h, _⟩ => (h0 x h).elim⟩⟩
theorem sameKey_i (x y : Int) : (Lit.int .i64 y).sameKey (.int .i64 x) = decide (y = x) := by
  by_cases e : y = x
  · subst e
    simp only [decide_true]
    simp [Lit.sameKey]
  · rw [Maps.sameKey_ne (lit_ne e)]; simp [e]
theorem mem_of_at {x c : Int} (h : ∀ zd, (mkD L).atKey (.int .i64 x) zd = .lit (.int .i64 c)) : x ∈ L := by
  have h1 := h (.lit (.int .i64 (c + 1)))
  rw [mkD_at] at h1
  split at h1
  · assumption
  · injection h1 with h1; injection h1 with _ h1; omega
/-- One more has been met: what it leads to. -/
theorem LaI.step {O : List Int} {x : Int} (a : LaI gs n d L left S H) (hx : x ∈ L) (hO : ∀ y, y ∈ O ↔ Via gs n x y) :
    LaI gs n d L (fun z => left z && !z.sameKey (.int .i64 x)) (S ++ [x] ++ lostL d O) (H ++ O.filter fun y => decide (y ≠ x)) := by
  have hd : ∀ y, LDone L (fun z => left z && !z.sameKey (.int .i64 x)) y ↔ LDone L left y ∨ y = x := fun y => by
    unfold LDone
    simp only [sameKey_i]
    constructor
    · rintro ⟨h1, h2⟩
      by_cases e : y = x
      · exact .inr e
      · simp [e] at h2; exact .inl ⟨h1, h2⟩
    · rintro (⟨h1, h2⟩ | rfl)
      · exact ⟨h1, by simp [h2]⟩
      · exact ⟨hx, by simp⟩
  refine ⟨fun y => ?_, fun y => ?_⟩
  · rw [List.mem_append, List.mem_append, a.s, mem_lostL, hO]
    constructor
    · rintro ((⟨z, h1, h2⟩ | h1) | h1)
      · exact ⟨z, (hd z).2 (.inl h1), h2⟩
      · exact ⟨x, (hd x).2 (.inr rfl), .inl (by simpa using h1)⟩
      · exact ⟨x, (hd x).2 (.inr rfl), .inr h1⟩
    · rintro ⟨z, h1, h2⟩
      rcases (hd z).1 h1 with h3 | rfl
      · exact .inl (.inl ⟨z, h3, h2⟩)
      · rcases h2 with h2 | h2
        · exact .inl (.inr (by simp [h2]))
        · exact .inr h2
  · rw [List.mem_append, a.h, List.mem_filter, hO]
    constructor
    · rintro (⟨z, h1, h2⟩ | ⟨h1, h2⟩)
      · exact ⟨z, (hd z).2 (.inl h1), h2⟩
      · exact ⟨x, (hd x).2 (.inr rfl), h1, by simpa using h2⟩
    · rintro ⟨z, h1, h2, h3⟩
      rcases (hd z).1 h1 with h4 | rfl
      · exact .inl ⟨z, h4, h2, h3⟩
      · exact .inr ⟨h2, by simpa using h3⟩
theorem LaI.fin (a : LaI gs n d L left S H) (hl : ∀ kl, left kl = false) : (∀ y, y ∈ S ↔ ∃ x ∈ L, y = x ∨ (Via gs n x y ∧ d.getD y.toNat 0 < 0)) ∧ ∀ y, y ∈ H ↔ ∃ x ∈ L, Via gs n x y ∧ y ≠ x := by
  have hd : ∀ x, LDone L left x ↔ x ∈ L := fun x => ⟨fun h => h.1, fun h => ⟨h, hl _⟩⟩
  exact ⟨fun y => (a.s y).trans ⟨fun ⟨x, h1, h2⟩ => ⟨x, (hd x).1 h1, h2⟩, fun ⟨x, h1, h2⟩ => ⟨x, (hd x).2 h1, h2⟩⟩, fun y => (a.h y).trans ⟨fun ⟨x, h1, h2⟩ => ⟨x, (hd x).1 h1, h2⟩, fun ⟨x, h1, h2⟩ => ⟨x, (hd x).2 h1, h2⟩⟩⟩
end
theorem ne_snoc (l : List Int) (p x : Int) : (l ++ [p]).filter (fun y => decide (y ≠ x)) = if p ≠ x then l.filter (fun y => decide (y ≠ x)) ++ [p] else l.filter (fun y => decide (y ≠ x)) := by
  rw [List.filter_append]
  by_cases e : p = x
  · rw [if_neg (by simp [e]), List.filter_cons_of_neg (by simp [e])]; simp
  · rw [if_pos e, List.filter_cons_of_pos (by simp [e])]; rfl
theorem wf_small {x : Int} (h0 : -1000 ≤ x) (h1 : x ≤ 1000) : (Lit.int .i64 x).wf = true := WalkArith.wf_i64 (by omega)

set_option maxRecDepth 100000 in
set_option maxHeartbeats 8000000 in
theorem last_ok (w : World) (AO AR AF : Option Addr) (nO cO nR cR nF cF : Nat) (obs : List Ob) (roots : List Val) (from_ : List Int) (hO : ObsRd w (fun _ => True) AO nO obs) (hR : Rd w (fun _ => True) 2 AR nR (vals roots)) (hF : Rd w (fun _ => True) 1 AF nF (ints from_)) (hz : gcheck nO nR obs roots = 0) (hnF : nF ≤ 24) (hfr : Fine nO from_) :
    Calls Try.prog 26 #[.agg #[.slice AO nO cO, .slice AR nR cR], .slice AF nF cF] w fun e w' => ∃ (A : Option Addr) (n c : Nat) (A2 : Option Addr) (n2 c2 : Nat) (L S H : List Int), e = .returned (.tuple #[.slice A n c, .slice A2 n2 c2, .int .i64 0]) ∧
      L = lostL (distR (obs.map Ob.fields) roots) from_ ∧ ((∀ y, y ∈ S ↔ ∃ x ∈ L, y = x ∨ (Via (obs.map Ob.fields) nO x y ∧ (distR (obs.map Ob.fields) roots).getD y.toNat 0 < 0)) ∧ ∀ y, y ∈ H ↔ ∃ x ∈ L, Via (obs.map Ob.fields) nO x y ∧ y ≠ x) ∧
      Sep No w w' [rowI 3 1 A n c (ints (filt (fun i => decide ((i : Int) ∈ L) && !decide ((i : Int) ∈ H)) nO)), rowI 3 1 A2 n2 c2 (ints (filt (fun i => decide ((i : Int) ∈ S)) nO))] := by
  have hG := gok_of hO hz
  have hn := hG.nO_
  have hS0 := (Sep.nil No w).blkAt 25 #[.slice AO nO cO, .slice AR nR cR] rfl
  obtain ⟨a1, a2, a3, a4⟩ := hS0.rules 0 (g := w.heap.size) (t := 25) rfl
  have a5 := a1 0
  have a6 := a1 1
  have HS0 := hide hS0
  have C1 := hide (graphCheck_any _ AO AR nO cO nR cR obs roots (hO.below hS0.below_) (hR.below hS0.below_))
  rw [hz] at C1
  have hfl : from_.length = nF := by have := hF.1; simpa using this
  have hno : from_.any (badI nO) = false := List.any_eq_false.2 fun x hx => by
    have := hfr x hx
    unfold badI
    simp; omega
  have C2 := hide (fun (W : World) (hb : Below w.heap.size w W) (hB : Blk W w.heap.size 25 #[.slice AO nO cO, .slice AR nR cR]) => lastContains_any W AF nF cF w.heap.size nO cO nR cR AO AR from_ (by omega) (hF.below hb) hB)
  rw [hno] at C2
  have C3 := hide (fun (W : World) (hb : Below w.heap.size w W) => found_ok W AO AR nO cO nR cR obs roots (hO.below hb) (hR.below hb) hG)
  have hdl : (distR (obs.map Ob.fields) roots).length = nO := by rw [distR_len]; exact hG.len
  have hgl := hG.len
  have C4 := hide (fun (W : World) (hb : Below w.heap.size w W) (i : Nat) (hi : i < nO) => leads_any W AO AR nO cO nR cR i obs (obs.map Ob.fields) (hO.below hb) rfl hn hG.fl hG.vg hi)
  obtain ⟨gs, hgs⟩ : ∃ gs, obs.map Ob.fields = gs := ⟨_, rfl⟩
  simp only [hgs] at C3 C4 hdl hgl ⊢
  obtain ⟨D, hD⟩ : ∃ D, distR gs roots = D := ⟨_, rfl⟩
  simp only [hD] at C3 hdl ⊢
  generalize order gs roots = OL at C3
  have HFR := hide hfr
  have HFL := hide hfl
  have HDL := hide hdl
  have hmm := @run_makeMap Try.prog
  have HF := hide hF
  clear hS0 hz a1 a4 hG hfl hfr hno hD hdl hgl hgs hF
  go_enter Try.func26, Try.ntmps26
  go_wp2_with fail
  refine C1.out.mono ?_
  rintro e w1 ⟨rfl, hb1⟩
  have hS1 := HS0.out.below hb1
  obtain ⟨b1, b2, b3, b4⟩ := hS1.rules 0 (g := w.heap.size) (t := 25) rfl
  have b5 := b1 0
  have b6 := b1 1
  have HS1 := hide hS1
  clear hb1 hS1 HS0 C1 a2 a3 a5 a6 b1 b4
  go_wp2_with fail
  refine (C2.out w1 HS1.out.below_ (HS1.out.get 0 rfl)).mono ?_
  rintro e w2 ⟨rfl, rfl⟩
  go_wp2_with fail
  refine (C3.out _ HS1.out.below_).mono ?_
  rintro e w3 ⟨A3, n3, c3, A4, c4, rfl, hP⟩
  have hS3 := (((Sep.call0 HS1.out hP).sub (l := [rowI 3 1 A4 nO c4 (ints D), blkI w.heap.size 25 #[.slice AO nO cO, .slice AR nR cR]]) (by simp)).imNew (g := w3.heap.size) rfl)
  have HS3 := hide hS3
  clear hP hS3 HS1 C2 C3 b2 b3 b5 b6
  go_wp2_with fail
  go_loopw [40] (fun s wr => ∃ (k n : Nat), k ≤ nF ∧ s = .int .i64 k ∧ n ≤ k ∧ Sep No w wr [rowI 3 1 A4 nO c4 (ints D), blkI w.heap.size 25 #[.slice AO nO cO, .slice AR nR cR], imI w3.heap.size n (mkD (lostL D (from_.take k)))]) (fun s _ => nF - (intOf s).toNat)
  case atStart => exact ⟨0, 0, by omega, rfl, by omega, HS3.out⟩
  case round =>
    clear HS3
    obtain ⟨k, m, hk, rfl, hm, hS⟩ := hrel
    by_cases hlt : k < nF
    · have hkl : k < from_.length := by rw [HFL.out]; exact hlt
      obtain ⟨ad, hA, _, had, hc⟩ := (HF.out.below hS.below_).at_ hlt
      have e0 := hc _ (ints_get' from_ k hkl)
      obtain ⟨r0, r1⟩ := HFR.out _ (List.getElem_mem hkl)
      obtain ⟨z, hz⟩ := int_nat r0
      have HTK := hide (List.take_succ_eq_append_getElem hkl)
      rw [hz] at e0 r1 HTK
      have hz2 : z < nO := by omega
      obtain ⟨gd, hgd, f1⟩ := ints_cell (hS.get 0 rfl) z hz2
      obtain ⟨y, hy⟩ : ∃ y, D.getD z 0 = y := ⟨_, rfl⟩
      rw [hy] at f1
      have hls := lostL_snoc D (from_.take k) (z : Int)
      rw [← HTK.out, show ((z : Int)).toNat = z from by omega, hy] at hls
      rw [hgd]
      have HGD := hide hgd
      subst hA
      have hwf := wf_small (x := (z : Int)) (by omega) (by omega)
      clear hc hz r0 hy hgd
      by_cases hneg : y < 0
      · have k1 : decide (y < 0) = true := by simp [hneg]
        rw [if_pos hneg] at hls
        have HLS := hide hls
        clear hls hneg
        go_wp2_with (first
          | (at_mapUpdate
             refine wpList_imUpd rfl (.tmp 49) (.tmp 50) (.const (.int .i64 1)) rfl hS 2 rfl (by unfold maxLen; omega) (z : Int) 1 rfl rfl rfl hwf (wf_small (by omega) (by omega)) ?_
             intro w4 hS4))
        go_roundw
        case rel => exact ⟨k + 1, m + 1, by omega, by go_num, by omega, by rw [HLS.out, mkD_snoc, ← HGD.out]; exact hS4⟩
        case measure => simp [intOf]; omega
      · have k1 : decide (y < 0) = false := by simp only [hneg, decide_false]
        rw [if_neg hneg] at hls
        have HLS := hide hls
        have HS := hide hS
        clear hls hneg hS
        go_wp2_with fail
        go_roundw
        case rel => exact ⟨k + 1, m, by omega, by go_num, by omega, by rw [HLS.out, ← HGD.out]; exact HS.out⟩
        case measure => simp [intOf]; omega
    · obtain rfl : k = nF := by omega
      obtain ⟨wB, rfl⟩ : ∃ wo : World, wo = wr := ⟨_, rfl⟩
      rw [List.take_of_length_le (by rw [HFL.out]; omega)] at hS
      have hLm : ∀ x ∈ lostL D from_, 0 ≤ x ∧ x < (nO : Int) := fun x hx => HFR.out x (mem_lostL.1 hx).1
      have HLM := hide hLm
      have HSZ := hide (show Maps.size (mkD (lostL D from_)) ≤ 24 by
        have h1 := mkD_size (lostL D from_)
        have h2 : (lostL D from_).length ≤ from_.length := List.length_filter_le _ _
        have := HFL.out
        omega)
      obtain ⟨L, hL⟩ : ∃ L, lostL D from_ = L := ⟨_, rfl⟩
      have HL := hide hL
      rw [hL] at hS HLM HSZ
      have hS2 := (hS.imNew (g := wB.heap.size) rfl).imNew (g := wB.heap.size + 1) (by simp)
      have HS2 := hide (show Sep No w ((wB.alloc (.map #[] 0)).alloc (.map #[] 0)) [rowI 3 1 A4 nO c4 (ints D), blkI w.heap.size 25 #[.slice AO nO cO, .slice AR nR cR], imI w3.heap.size m (mkD L), imI wB.heap.size 0 (mkD []), imI (wB.heap.size + 1) 0 (mkD [])] from hS2)
      clear hS hS2 hL hLm
      go_wp2_with (first
        | (at_range
           refine wpList_rgBegin rfl (.tmp 54) rfl HS2.out 2 rfl rfl ?_
           intro w4 hS4 hsz4
           (have HS4 := hide hS4)
           clear hS4 HS2))
      go_frame
      simp only [World.size_alloc] at HS4 hsz4 ⊢
      have HL0 := hide (LaI.start (gs := gs) (n := nO) (d := D) (L := L))
      go_loopw [15] (fun _ wr2 => ∃ (left : Lit → Bool) (cnt ns nh : Nat) (S H : List Int), ns + 100 * cnt ≤ 2400 ∧ nh + 100 * cnt ≤ 2400 ∧ Hid (LaI gs nO D L left S H) ∧ Sep No w wr2 [rowI 3 1 A4 nO c4 (ints D), blkI w.heap.size 25 #[.slice AO nO cO, .slice AR nR cR], rgI w3.heap.size (wB.heap.size + 1 + 1) m (mkD L) left cnt, imI wB.heap.size ns (mkD S), imI (wB.heap.size + 1) nh (mkD H)]) (fun _ wr2 => wr2.rangeLeft w3.heap.size (wB.heap.size + 1 + 1))
      case atStart => exact ⟨_, _, 0, 0, [], [], by have := HSZ.out; omega, by have := HSZ.out; omega, HL0, HS4.out⟩
      case round =>
        clear HS4 HL0
        obtain ⟨left, cnt, ns, nh, S, H, hq1, hq2, HI, hS⟩ := hrel
        have HSO := hide hS
        go_wp2_with (first
          | (at_next
             refine wpList_rgNext rfl (.tmp 55) rfl hS 2 rfl rfl ?_ ?_))
        · intro hc0 hl0
          have HFIN := hide (HI.out.fin hl0)
          have HL0 := hide hl0
          clear hS HI hl0
          have HS5 := hide ((HSO.out.nilRow0 3 1).nilRow0 3 1)
          obtain ⟨x1, x2, x3, x4⟩ := HSO.out.rules 1 (g := w.heap.size) (t := 25) rfl
          have x5 := x1 0
          clear x1 x4
          go_wp2_with fail
          go_loopw [18, 19, 86] (fun s18 s19 s wr => ∃ (k4 m1 d1 m2 d2 : Nat) (A1 A2 : Option Addr), k4 ≤ nO ∧ s = .int .i64 k4 ∧ s18 = .slice A1 m1 d1 ∧ s19 = .slice A2 m2 d2 ∧ m1 ≤ k4 ∧ m2 ≤ k4 ∧ Sep No w wr [rowI 3 1 A1 m1 d1 (ints (filt (fun i => decide ((i : Int) ∈ L) && !decide ((i : Int) ∈ H)) k4)), rowI 3 1 A2 m2 d2 (ints (filt (fun i => decide ((i : Int) ∈ S)) k4)), rowI 3 1 A4 nO c4 (ints D), blkI w.heap.size 25 #[.slice AO nO cO, .slice AR nR cR], rgI w3.heap.size (wB.heap.size + 1 + 1) m (mkD L) left cnt, imI wB.heap.size ns (mkD S), imI (wB.heap.size + 1) nh (mkD H)]) (fun _ _ s _ => nO - (intOf s).toNat)
          case atStart => exact ⟨0, 0, 0, 0, 0, none, none, by omega, rfl, rfl, rfl, by omega, by omega, HS5.out⟩
          case round =>
            clear HS5 x2 x3 x5
            obtain ⟨k4, m1, d1, m2, d2, A1, A2, hk4, rfl, rfl, rfl, hm1, hm2, hS⟩ := hrel
            have HU1 := hide (filt_succ (fun i => decide ((i : Int) ∈ L) && !decide ((i : Int) ∈ H)) k4)
            have HU2 := hide (filt_succ (fun i => decide ((i : Int) ∈ S)) k4)
            by_cases hl4 : k4 < nO
            · have hwf := wf_small (x := (k4 : Int)) (by omega) (by omega)
              have q1 := run_lookup_mk (rgI_owns (hS.get 4 rfl)) (k4 : Int) hwf
              have q2 := run_lookup_mk (hS.get 6 rfl) (k4 : Int) hwf
              have q3 := run_lookup_mk (hS.get 5 rfl) (k4 : Int) hwf
              by_cases c1 : (k4 : Int) ∈ L ∧ ¬ (k4 : Int) ∈ H
              · rw [if_pos c1.1] at q1
                rw [if_neg c1.2] at q2
                have HV1 := hide (HU1.out.trans (show _ = filt (fun i => decide ((i : Int) ∈ L) && !decide ((i : Int) ∈ H)) k4 ++ [(k4 : Int)] from by simp [c1.1, c1.2]))
                clear c1 q3 HU1
                by_cases c2 : (k4 : Int) ∈ S
                · have HV2 := hide (HU2.out.trans (show _ = filt (fun i => decide ((i : Int) ∈ S)) k4 ++ [(k4 : Int)] from by simp [c2]))
                  have HC2 := hide c2
                  clear c2 HU2
                  go_wp2_with (first
                    | (at_builtin
                       refine wpList_app1 (cs := #[.int .i64 k4]) rfl (.tmp 99) (.tmp 101) 35 rfl sInt hS 0 (n := m1) rfl rfl rfl (by simp) rfl rfl (by omega) ?_
                       intro A5 c5 w5 hS5 hC5
                       have q4 := run_lookup_mk (hS5.get 5 rfl) (k4 : Int) hwf
                       rw [if_pos HC2.out] at q4)
                    | (at_builtin
                       refine wpList_app1 (cs := #[.int .i64 k4]) rfl (.tmp 107) (.tmp 109) 35 rfl sInt hS5 1 (n := m2) rfl rfl rfl (by simp) rfl rfl (by omega) ?_
                       intro A6 c6 w6 hS6 hC6))
                  go_roundw
                  case rel => exact ⟨k4 + 1, m1 + 1, c5, m2 + 1, c6, A5, A6, by omega, by go_num, rfl, rfl, by omega, by omega, by rw [HV1.out, HV2.out, ints_snoc_, ints_snoc_]; exact hS6⟩
                  case measure => simp [intOf]; omega
                · have HV2 := hide (HU2.out.trans (show _ = filt (fun i => decide ((i : Int) ∈ S)) k4 from by simp [c2]))
                  have HC2 := hide c2
                  clear c2 HU2
                  go_wp2_with (first
                    | (at_builtin
                       refine wpList_app1 (cs := #[.int .i64 k4]) rfl (.tmp 99) (.tmp 101) 35 rfl sInt hS 0 (n := m1) rfl rfl rfl (by simp) rfl rfl (by omega) ?_
                       intro A5 c5 w5 hS5 hC5
                       have q4 := run_lookup_mk (hS5.get 5 rfl) (k4 : Int) hwf
                       rw [if_neg HC2.out] at q4))
                  go_roundw
                  case rel => exact ⟨k4 + 1, m1 + 1, c5, m2, d2, A5, A2, by omega, by go_num, rfl, rfl, by omega, by omega, by rw [HV1.out, HV2.out, ints_snoc_]; exact hS5⟩
                  case measure => simp [intOf]; omega
              · have HV1 := hide (HU1.out.trans (show _ = filt (fun i => decide ((i : Int) ∈ L) && !decide ((i : Int) ∈ H)) k4 from by
                  rw [if_neg (fun h => c1 (by simpa using h)), List.append_nil]))
                rcases (show ((k4 : Int) ∈ L ∧ (k4 : Int) ∈ H) ∨ ¬ (k4 : Int) ∈ L from by
                  by_cases h1 : (k4 : Int) ∈ L
                  · by_cases h2 : (k4 : Int) ∈ H
                    · exact .inl ⟨h1, h2⟩
                    · exact absurd ⟨h1, h2⟩ c1
                  · exact .inr h1) with ⟨c3, c4'⟩ | c3
                · rw [if_pos c3] at q1
                  rw [if_pos c4'] at q2
                  clear c1 c3 c4' HU1
                  by_cases c2 : (k4 : Int) ∈ S
                  · have HV2 := hide (HU2.out.trans (show _ = filt (fun i => decide ((i : Int) ∈ S)) k4 ++ [(k4 : Int)] from by simp [c2]))
                    rw [if_pos c2] at q3
                    clear c2 HU2
                    go_wp2_with (first
                      | (at_builtin
                         refine wpList_app1 (cs := #[.int .i64 k4]) rfl (.tmp 107) (.tmp 109) 35 rfl sInt hS 1 (n := m2) rfl rfl rfl (by simp) rfl rfl (by omega) ?_
                         intro A6 c6 w6 hS6 hC6))
                    go_roundw
                    case rel => exact ⟨k4 + 1, m1, d1, m2 + 1, c6, A1, A6, by omega, by go_num, rfl, rfl, by omega, by omega, by rw [HV1.out, HV2.out, ints_snoc_]; exact hS6⟩
                    case measure => simp [intOf]; omega
                  · have HV2 := hide (HU2.out.trans (show _ = filt (fun i => decide ((i : Int) ∈ S)) k4 from by simp [c2]))
                    rw [if_neg c2] at q3
                    have HS := hide hS
                    clear c2 HU2 hS
                    go_wp2_with fail
                    go_roundw
                    case rel => exact ⟨k4 + 1, m1, d1, m2, d2, A1, A2, by omega, by go_num, rfl, rfl, by omega, by omega, by rw [HV1.out, HV2.out]; exact HS.out⟩
                    case measure => simp [intOf]; omega
                · rw [if_neg c3] at q1
                  clear c1 c3 HU1 q2
                  by_cases c2 : (k4 : Int) ∈ S
                  · have HV2 := hide (HU2.out.trans (show _ = filt (fun i => decide ((i : Int) ∈ S)) k4 ++ [(k4 : Int)] from by simp [c2]))
                    rw [if_pos c2] at q3
                    clear c2 HU2
                    go_wp2_with (first
                      | (at_builtin
                         refine wpList_app1 (cs := #[.int .i64 k4]) rfl (.tmp 107) (.tmp 109) 35 rfl sInt hS 1 (n := m2) rfl rfl rfl (by simp) rfl rfl (by omega) ?_
                         intro A6 c6 w6 hS6 hC6))
                    go_roundw
                    case rel => exact ⟨k4 + 1, m1, d1, m2 + 1, c6, A1, A6, by omega, by go_num, rfl, rfl, by omega, by omega, by rw [HV1.out, HV2.out, ints_snoc_]; exact hS6⟩
                    case measure => simp [intOf]; omega
                  · have HV2 := hide (HU2.out.trans (show _ = filt (fun i => decide ((i : Int) ∈ S)) k4 from by simp [c2]))
                    rw [if_neg c2] at q3
                    have HS := hide hS
                    clear c2 HU2 hS
                    go_wp2_with fail
                    go_roundw
                    case rel => exact ⟨k4 + 1, m1, d1, m2, d2, A1, A2, by omega, by go_num, rfl, rfl, by omega, by omega, by rw [HV1.out, HV2.out]; exact HS.out⟩
                    case measure => simp [intOf]; omega
            · obtain rfl : k4 = nO := by omega
              have HS := hide hS
              clear hS HU1 HU2
              go_wp2_with fail
              go_ret3
              exact ⟨A1, m1, d1, A2, m2, d2, L, S, H, rfl, HL.out.symm, HFIN.out, HS.out.sub (by simp)⟩
        · intro x c w5 cnt1 hwx hlx hlt2 hat hS5 hsz5 hen
          have hxL := mem_of_at hat
          obtain ⟨r0, r1⟩ := HLM.out x hxL
          obtain ⟨z, hz⟩ := int_nat r0
          subst hz
          have hz2 : z < nO := by omega
          have HXL := hide hxL
          have hns : ns ≤ 2400 := by omega
          clear hat hxL hlx hS hsz5
          go_wp2_with (first
            | (at_mapUpdate
               refine wpList_imUpd rfl (.tmp 60) (.tmp 61) (.const (.int .i64 1)) rfl hS5 3 rfl (by unfold maxLen; omega) (z : Int) 1 rfl rfl rfl hwx (wf_small (by omega) (by omega)) ?_
               intro w6 hS6
               rw [← mkD_snoc] at hS6
               obtain ⟨x1, x2, x3, x4⟩ := hS6.rules 1 (g := w.heap.size) (t := 25) rfl
               (have x5 := x1 0)
               (have x6 := x1 1)
               (have HS6 := hide hS6)
               clear hS6 hS5 x1 x4 hen))
          refine (C4.out w6 HS6.out.below_ z hz2).mono ?_
          rintro e w7 ⟨A7, n7, c7, O, rfl, hn7, hn24, hOv, hOr, hP7⟩
          have hS7 := sepNewR HS6.out hP7
          have HON := hide hn7
          have HOV := hide hOv
          have HOR := hide hOr
          have HS7 := hide (show Sep No w w7 [rowI 3 1 A4 nO c4 (ints D), blkI w.heap.size 25 #[.slice AO nO cO, .slice AR nR cR], rgI w3.heap.size (wB.heap.size + 1 + 1) m (mkD L) (fun z_1 => left z_1 && !z_1.sameKey (.int .i64 (z : Int))) cnt1, imI wB.heap.size (ns + 1) (mkD (S ++ [(z : Int)] ++ lostL D (O.take 0))), imI (wB.heap.size + 1) nh (mkD (H ++ (O.take 0).filter fun y => decide (y ≠ (z : Int)))), rowI 3 1 A7 n7 c7 (ints O)] from by
            have h1 : S ++ [(z : Int)] ++ lostL D (O.take 0) = S ++ [(z : Int)] := by simp [lostL]
            have h2 : H ++ ((O.take 0).filter fun y => decide (y ≠ (z : Int))) = H := by simp
            rw [h1, h2]
            exact hS7)
          clear hP7 hS7 hn7 hOv hOr HS6 x2 x3 x5 x6
          go_wp2_with fail
          go_loopw [66] (fun s wr2 => ∃ (k2 ns2 nh2 : Nat), k2 ≤ n7 ∧ s = .int .i64 k2 ∧ ns2 ≤ ns + 1 + k2 ∧ nh2 ≤ nh + k2 ∧ Sep No w wr2 [rowI 3 1 A4 nO c4 (ints D), blkI w.heap.size 25 #[.slice AO nO cO, .slice AR nR cR], rgI w3.heap.size (wB.heap.size + 1 + 1) m (mkD L) (fun z_1 => left z_1 && !z_1.sameKey (.int .i64 (z : Int))) cnt1, imI wB.heap.size ns2 (mkD (S ++ [(z : Int)] ++ lostL D (O.take k2))), imI (wB.heap.size + 1) nh2 (mkD (H ++ (O.take k2).filter fun y => decide (y ≠ (z : Int)))), rowI 3 1 A7 n7 c7 (ints O)]) (fun s _ => n7 - (intOf s).toNat)
          case atStart => exact ⟨0, ns + 1, nh, by omega, rfl, by omega, by omega, HS7.out⟩
          case round =>
            clear HS7
            obtain ⟨k2, ns2, nh2, hk2, rfl, hn2, hh2, hS⟩ := hrel
            by_cases hl2 : k2 < n7
            · have hkl : k2 < O.length := by rw [← HON.out]; exact hl2
              obtain ⟨go, hgo, f1⟩ := ints_cell (hS.get 5 rfl) k2 hl2
              have hgk : O.getD k2 0 = O[k2] := getD_get hkl
              obtain ⟨s0, s1⟩ := HOR.out _ (List.getElem_mem hkl)
              have HTK := hide (List.take_succ_eq_append_getElem hkl)
              obtain ⟨p, hp⟩ := int_nat s0
              rw [hgk, hp] at f1
              rw [hp] at s1 HTK
              have hp2 : p < nO := by omega
              obtain ⟨gd, hgd, f2⟩ := ints_cell (hS.get 0 rfl) p hp2
              obtain ⟨y, hy⟩ : ∃ y, D.getD p 0 = y := ⟨_, rfl⟩
              rw [hy] at f2
              have hls := lostL_snoc D (O.take k2) (p : Int)
              rw [← HTK.out, show ((p : Int)).toNat = p from by omega, hy] at hls
              have hns2 := ne_snoc (O.take k2) (p : Int) (z : Int)
              rw [← HTK.out] at hns2
              have hwf := wf_small (x := (p : Int)) (by omega) (by omega)
              have h1f := wf_small (x := 1) (by omega) (by omega)
              have hm1 : ns2 < maxLen := by unfold maxLen; omega
              have hm2 : nh2 < maxLen := by unfold maxLen; omega
              have HGO := hide hgo
              have HGD := hide hgd
              rw [hgo, hgd]
              clear hgk s0 hp hy hgo hgd
              by_cases hneg : y < 0
              · have k1 : decide (y < 0) = true := by simp [hneg]
                rw [if_pos hneg] at hls
                have HLS := hide hls
                by_cases hpz : p = z
                · subst hpz
                  rw [if_neg (by simp)] at hns2
                  have HNS := hide hns2
                  clear hls hneg hns2
                  go_wp2_with (first
                    | (at_mapUpdate
                       refine wpList_imUpd rfl (.tmp 75) (.tmp 76) (.const (.int .i64 1)) rfl hS 3 rfl hm1 (p : Int) 1 rfl rfl rfl hwf h1f ?_
                       intro w8 hS8
                       rw [← mkD_snoc] at hS8))
                  go_roundw
                  case rel => exact ⟨k2 + 1, ns2 + 1, nh2, by omega, by go_num, by omega, by omega, by rw [HLS.out, HNS.out, ← HGO.out, ← HGD.out, ← List.append_assoc]; exact hS8⟩
                  case measure => simp [intOf]; omega
                · have k3 : ((p : Int) != (z : Int)) = true := by rw [bne_iff_ne]; omega
                  have k4 : (p != z) = true := by simp [hpz]
                  rw [if_pos (by omega)] at hns2
                  have HNS := hide hns2
                  clear hls hneg hns2 hpz
                  go_wp2_with (first
                    | (at_mapUpdate
                       refine wpList_imUpd rfl (.tmp 75) (.tmp 76) (.const (.int .i64 1)) rfl hS 3 rfl hm1 (p : Int) 1 rfl rfl rfl hwf h1f ?_
                       intro w8 hS8
                       rw [← mkD_snoc] at hS8)
                    | (at_mapUpdate
                       refine wpList_imUpd rfl (.tmp 80) (.tmp 81) (.const (.int .i64 1)) rfl hS8 4 rfl hm2 (p : Int) 1 rfl rfl rfl hwf h1f ?_
                       intro w9 hS9
                       rw [← mkD_snoc] at hS9))
                  go_roundw
                  case rel => exact ⟨k2 + 1, ns2 + 1, nh2 + 1, by omega, by go_num, by omega, by omega, by rw [HLS.out, HNS.out, ← HGO.out, ← HGD.out, ← List.append_assoc, ← List.append_assoc]; exact hS9⟩
                  case measure => simp [intOf]; omega
              · have k1 : decide (y < 0) = false := by simp only [hneg, decide_false]
                rw [if_neg hneg] at hls
                have HLS := hide hls
                by_cases hpz : p = z
                · subst hpz
                  rw [if_neg (by simp)] at hns2
                  have HNS := hide hns2
                  have HS := hide hS
                  clear hls hneg hns2 hS
                  go_wp2_with fail
                  go_roundw
                  case rel => exact ⟨k2 + 1, ns2, nh2, by omega, by go_num, by omega, by omega, by rw [HLS.out, HNS.out, ← HGO.out, ← HGD.out]; exact HS.out⟩
                  case measure => simp [intOf]; omega
                · have k3 : ((p : Int) != (z : Int)) = true := by rw [bne_iff_ne]; omega
                  have k4 : (p != z) = true := by simp [hpz]
                  rw [if_pos (by omega)] at hns2
                  have HNS := hide hns2
                  clear hls hneg hns2 hpz
                  go_wp2_with (first
                    | (at_mapUpdate
                       refine wpList_imUpd rfl (.tmp 80) (.tmp 81) (.const (.int .i64 1)) rfl hS 4 rfl hm2 (p : Int) 1 rfl rfl rfl hwf h1f ?_
                       intro w9 hS9
                       rw [← mkD_snoc] at hS9))
                  go_roundw
                  case rel => exact ⟨k2 + 1, ns2, nh2 + 1, by omega, by go_num, by omega, by omega, by rw [HLS.out, HNS.out, ← HGO.out, ← HGD.out, ← List.append_assoc]; exact hS9⟩
                  case measure => simp [intOf]; omega
            · obtain rfl : k2 = n7 := by omega
              rw [List.take_of_length_le (by rw [← HON.out]; omega)] at hS
              have HI2 := hide (HI.out.step HXL.out HOV.out)
              have HS := hide (hS.sub (l := [rowI 3 1 A4 nO c4 (ints D), blkI w.heap.size 25 #[.slice AO nO cO, .slice AR nR cR], rgI w3.heap.size (wB.heap.size + 1 + 1) m (mkD L) (fun z_1 => left z_1 && !z_1.sameKey (.int .i64 (z : Int))) cnt1, imI wB.heap.size ns2 (mkD (S ++ [(z : Int)] ++ lostL D O)), imI (wB.heap.size + 1) nh2 (mkD (H ++ O.filter fun y => decide (y ≠ (z : Int))))]) (by simp))
              clear hS
              go_wp2_with fail
              go_roundw
              case rel => exact ⟨_, cnt1, ns2, nh2, _, _, by omega, by omega, HI2, HS.out⟩
              case measure => rw [rgI_left (HS.out.get 2 rfl), rgI_left (HSO.out.get 2 rfl)]; exact hlt2
end Go.Proofs.Ytaajkldhnjoicaa
