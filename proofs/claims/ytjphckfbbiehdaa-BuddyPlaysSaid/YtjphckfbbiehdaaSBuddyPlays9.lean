/- A map from numbers to numbers: how many it has, what stands at a place, a place set. The least place of a map. A yard of pieces, opened. A yard is opened: one piece, of all. -/
import Derived.Test.YtjphckfbbiehdaaSBuddyPlays6
import Derived.Test.YtjphckfbbiehdaaSBuddyPlays8
import Derived.Maps.RangeWalk
import Derived.Deep.DeepCutAuto
set_option linter.unusedSimpArgs false
set_option linter.unusedVariables false
namespace Go.Proofs.Ytjphckfbbiehdaa
open Go.RowKit Go.Maps
theorem any_fold {H : Type} (f : Lit × DataW H → Bool) : ∀ l : List (Lit × DataW H), (l.foldr DataW.insert []).any f = l.any f
  | [] => rfl
  | a :: l => by rw [List.foldr_cons, any_insert, any_fold f l, List.any_cons]
set_option maxRecDepth 100000 in
theorem fm_len {w : World} {b N : Nat} {f : Int → Option Nat} (h : (fmI b N f).P w) : ∃ s : Nat, (∀ ty, (Builtin.len_ #[99] ty #[.map (some b)]).run Try.prog w = .ok (.int .i64 (s : Int)) w) ∧ s ≤ N ∧ (s = 0 ↔ ∀ x, wfI x → f x = none) := by
  obtain ⟨D, h1, h2⟩ := h
  refine ⟨Maps.size D, fun ty => h1.len Try.underlying99 ty, h1.size_le, fun hs x hx => ?_, fun hf => ?_⟩
  · obtain ⟨es, rfl, _⟩ := h1.tidy (int_keyed Try.underlying3)
    obtain rfl : es = [] := List.eq_nil_of_length_eq_zero hs
    have h3 := h2 x hx
    cases hfx : f x with
    | none => rfl
    | some m =>
      rw [hfx] at h3
      have := has_true_of_atKey h3
      rw [has_eq] at this
      cases this
  · rcases Nat.eq_zero_or_pos (Maps.size D) with h0 | h0
    · exact h0
    · exfalso
      obtain ⟨es, clock, hb, F, hn, rfl⟩ := h1
      rw [size_eq, length_read] at h0
      have hm : es[0] ∈ es.toList := Array.getElem_mem_toList h0
      obtain ⟨y, hy⟩ := F.reads _ hm
      obtain ⟨z, _, hz, hzw⟩ := keyOf_int_inv Try.underlying3 (WideElems.rd_key hy)
      have h3 := h2 z hzw
      rw [hf z hzw] at h3
      have h4 := has_false_of_atKey h3
      rw [has_eq, any_fold] at h4
      have h5 := List.any_eq_false.1 h4 y (List.mem_map.2 ⟨_, hm, WideElems.rg_of hy⟩)
      rw [hz] at h5
      simp [Lit.sameKey] at h5
set_option maxRecDepth 100000 in
theorem fm_look0 {w : World} {b N : Nat} {f : Int → Option Nat} (h : (fmI b N f).P w) (x : Int) (hx : wfI x) :
    (Instr.lookup 99 (.map (some b)) (.int .i64 x) false).run Try.prog w = .ok (.int .i64 (match f x with | none => 0 | some m => (m : Int))) w := by
  obtain ⟨D, h1, h2⟩ := h
  obtain ⟨c, hc, _, hrun⟩ := at_look h1 x hx
  rw [hrun]
  have h3 := (h2 x hx (.lit (.int .i64 0))).symm.trans hc
  cases hf : f x with
  | none =>
    rw [hf] at h3
    injection h3 with h3; injection h3 with _ h3
    rw [← h3]
  | some m =>
    rw [hf] at h3
    injection h3 with h3; injection h3 with _ h3
    rw [← h3]
set_option maxRecDepth 100000 in
theorem Sep.fmPut {F : Nat → Prop} {W w : World} {items : List Item} (hS : Sep F W w items) (k : Nat) {b N : Nat} {f : Int → Option Nat} (hk : items[k]? = some (fmI b N f)) (hn : N + 1 < maxLen) (x : Int) (hx : wfI x) (m : Nat) (hm : wfI (m : Int)) :
    ∃ w', (Instr.mapUpdate 99 (.map (some b)) (.int .i64 x) (.int .i64 (m : Int))).run Try.prog w = .ok () w' ∧ Sep F W w' (items.set k (fmI b (N + 1) (putO f x m))) := by
  obtain ⟨D, hown, hD⟩ : (fmI b N f).P w := hS.get k hk
  have ht := hown.tidy (int_keyed Try.underlying3)
  have hs := hown.size_le
  obtain ⟨w', hrun, r1, r2⟩ := hown.update (int_keyed Try.underlying3) Try.underlying99 (by omega) (keyOf_int_mk Try.underlying3 hx) (plainElem_int Try.underlying3 hm)
  have hsz : Maps.size (D.put (.int .i64 x) (.lit (.int .i64 (m : Int)))) ≤ N + 1 := by
    rw [Maps.size_put ht]
    split <;> omega
  have hc : Chg (fun g => g = b) w w' := (Chg.of_grown r2).mono (fun g hx => .inl (by injection hx with hx; exact hx.symm))
  refine ⟨w', hrun, hS.step k hk hc (fmI b (N + 1) (putO f x m)) ⟨_, owns_tight r1 hsz, fun y hy z => ?_⟩ (fun g hg => .inl hg)⟩
  unfold putO
  by_cases hyx : y = x
  · subst hyx
    rw [if_pos rfl, atKey_put_same (k := Lit.int .i64 y) ht.isMap trivial]
  · rw [if_neg hyx, atKey_put_other (lit_ne hyx), hD y hy]
set_option maxRecDepth 100000 in
theorem wpList_fmPut {w : World} {ops : Array Oper} {rest : List Oper} {o : Oper} {a : Act} {Q : Exit → Act → World → Prop} (hgd : o.guard = none) (m x v : Operand) (hop : o.op = Op.mapUpdate 99 m x v)
    {F : Nat → Prop} {W : World} {items : List Item} (hS : Sep F W w items) (k : Nat) {b N : Nat} {f : Int → Option Nat} (hk : items[k]? = some (fmI b N f)) (hn : N + 1 < maxLen) (y : Int) (z : Nat) (hm : a.eval m = .map (some b)) (hx : a.eval x = .int .i64 y) (hv : a.eval v = .int .i64 (z : Int))
    (hy : wfI y) (hz : wfI (z : Int)) (h : ∀ w', Sep F W w' (items.set k (fmI b (N + 1) (putO f y z))) → wpList Try.prog ops Q rest (a.put o.dst undef) w') : wpList Try.prog ops Q (o :: rest) a w :=
  wpList_plain hgd fun K hK => by
    obtain ⟨w', hrun, hS'⟩ := hS.fmPut k hk hn y hy z hz
    unfold Oper.wp
    simp [execOp, hop, hm, hx, hv, hrun, Result.andThen]
    exact hK _ _ (h w' hS')
/-! ### A loop over such a map. -/
/-- The keys that the loop has still to come to. -/
def fmR (b r N : Nat) (f : Int → Option Nat) (left : Int → Bool) (cnt : Nat) : Item where
  fp k := k = b ∨ k = r
  P w := ∃ (D : DataW Unit) (lf : Lit → Bool), w.ranges Try.prog 3 (plainElem Try.prog 3) b r N D lf cnt ∧ (∀ x, wfI x → ∀ z, D.atKey (.int .i64 x) z = match f x with | none => z | some m => .lit (.int .i64 (m : Int))) ∧ ∀ x, wfI x → lf (.int .i64 x) = left x
  dom w h k hk := by
    obtain ⟨D, lf, h, _, _⟩ := h
    rcases hk with rfl | rfl
    · exact World.ownsMap.lt (World.ranges.owns h)
    · exact World.ranges.lt h
  loc w w' _ hk h := by
    have h1 := hk b (.inl rfl)
    have h2 := hk r (.inr rfl)
    obtain ⟨D, lf, h, h3, h4⟩ := h
    refine ⟨D, lf, ?_, h3, h4⟩
    unfold World.ranges at h ⊢
    rw [h1, h2]
    exact h
set_option maxRecDepth 100000 in
theorem wpList_fmBegin {w : World} {ops : Array Oper} {rest : List Oper} {o : Oper} {a : Act} {Q : Exit → Act → World → Prop} (hgd : o.guard = none) (m : Operand) (hop : o.op = Op.range 99 m)
    {F : Nat → Prop} {W : World} {items : List Item} (hS : Sep F W w items) (k : Nat) {b N : Nat} {f : Int → Option Nat} (hk : items[k]? = some (fmI b N f)) (hm : a.eval m = .map (some b))
    (h : ∀ w' cnt, cnt ≤ N → Sep F W w' (items.set k (fmR b w.heap.size N f (fun x => (f x).isSome) cnt)) → w'.heap.size = w.heap.size + 1 → wpList Try.prog ops Q rest (a.put o.dst (.pointer (some ⟨w.heap.size, 0, none⟩))) w') : wpList Try.prog ops Q (o :: rest) a w := by
  obtain ⟨D, hown, hD⟩ : (fmI b N f).P w := hS.get k hk
  refine wpList_range_own w hgd m 99 hop 3 3 (int_keyed Try.underlying3) Try.underlying99 _ b N D hm hown ?_
  intro w' h1 h2 h3
  refine h w' (Maps.size D) hown.size_le (hS.step k hk ((Chg.of_grown h2).mono (fun g hx => by cases hx)) (fmR b w.heap.size N f (fun x => (f x).isSome) (Maps.size D)) ⟨D, _, h1, hD, fun x hx => ?_⟩ (fun g hg => by
    rcases hg with hg | hg
    · exact .inl hg
    · exact .inr (by omega))) h3
  have h4 := hD x hx
  cases hf : f x with
  | none => rw [hf] at h4; simpa [hf] using has_false_of_atKey h4
  | some m => rw [hf] at h4; simpa [hf] using has_true_of_atKey h4
set_option maxRecDepth 100000 in
theorem wpList_fmNext {w : World} {ops : Array Oper} {rest : List Oper} {o : Oper} {a : Act} {Q : Exit → Act → World → Prop} (hgd : o.guard = none) (it : Operand) (hop : o.op = Op.next it false)
    {F : Nat → Prop} {W : World} {items : List Item} (hS : Sep F W w items) (k : Nat) {b r N cnt : Nat} {f : Int → Option Nat} {left : Int → Bool} (hk : items[k]? = some (fmR b r N f left cnt)) (hit : a.eval it = .pointer (some ⟨r, 0, none⟩))
    (hDone : cnt = 0 → (∀ x, wfI x → left x = false) → wpList Try.prog ops Q rest (a.put o.dst (.tuple #[.bool false])) w)
    (hMore : ∀ (x : Int) (m : Nat) (w' : World) (cnt' : Nat), wfI x → left x = true → cnt' < cnt → f x = some m →
      Sep F W w' (items.set k (fmR b r N f (fun z => left z && !decide (z = x)) cnt')) → w'.heap.size = w.heap.size → (Instr.entry (.pointer (some ⟨r, 0, none⟩))).run Try.prog w' = .ok (.tuple #[.int .i64 x, .int .i64 (m : Int)]) w' → wpList Try.prog ops Q rest (a.put o.dst (.tuple #[.bool true, .int .i64 x, .int .i64 (m : Int)])) w') :
    wpList Try.prog ops Q (o :: rest) a w := by
  obtain ⟨D, lf, hr, hD, hL⟩ : (fmR b r N f left cnt).P w := hS.get k hk
  refine wpList_next_ranges_ii w hgd it hop 3 3 .i64 .i64 (int_keyed Try.underlying3) Try.underlying3 Try.underlying3 b r N D lf cnt hit hr (fun h1 h2 => hDone h1 (fun x hx => by rw [← hL x hx]; exact h2 _)) ?_
  intro x c w' cnt' h1 h2 h3 h4 h5 h6 h7 h8 h9
  have h10 := hD x h1
  cases hf : f x with
  | none =>
    rw [hf] at h10
    have := (has_true_of_atKey h4).symm.trans (has_false_of_atKey h10)
    cases this
  | some m =>
    rw [hf] at h10
    obtain rfl : c = (m : Int) := by
      have h11 := (h4 (.map [])).symm.trans (h10 (.map []))
      injection h11 with h11; injection h11
    refine hMore x m w' cnt' h1 ((hL x h1).symm.trans h3) h6 hf (hS.step k hk ((Chg.of_grown h7).mono (fun g hx => .inl (.inr (by injection hx with hx; exact hx.symm)))) (fmR b r N f _ cnt') ⟨D, _, h5, hD, fun y hy => ?_⟩ (fun g hg => .inl hg)) h8 h9
    rw [hL y hy]
    by_cases hyx : y = x
    · subst hyx
      simp [Lit.sameKey]
    · rw [Maps.sameKey_ne (lit_ne hyx)]
      simp [hyx]
theorem fmR_owns {w : World} {b r N cnt : Nat} {f : Int → Option Nat} {left : Int → Bool} (h : (fmR b r N f left cnt).P w) : (fmI b N f).P w := by
  obtain ⟨D, lf, h1, h2, _⟩ := h
  exact ⟨D, World.ranges.owns h1, h2⟩
end Go.Proofs.Ytjphckfbbiehdaa

namespace Go.Proofs.Ytjphckfbbiehdaa
open Go.RowKit Go.Maps
theorem fmR_left {w : World} {b r N cnt : Nat} {f : Int → Option Nat} {left : Int → Bool} (h : (fmR b r N f left cnt).P w) : w.rangeLeft b r = cnt := by
  obtain ⟨D, lf, h1, _, _⟩ := h
  exact World.ranges.left_eq h1
/-- What has been come to, and the least of it. -/
structure LeastI (f : Int → Option Nat) (left : Int → Bool) (z : Int) : Prop where
  lo : ∀ x, wfI x → f x ≠ none → left x = false → 0 ≤ z ∧ z ≤ x
  is : z = -1 ∨ (0 ≤ z ∧ wfI z ∧ f z ≠ none)
  sub : ∀ x, wfI x → left x = true → f x ≠ none
theorem LeastI.step {f : Int → Option Nat} {left : Int → Bool} {z x : Int} (h : LeastI f left z) (hx : wfI x) (hl : left x = true) (hp : 0 ≤ x) : LeastI f (fun y => left y && !decide (y = x)) (if z < 0 ∨ x < z then x else z) := by
  have hfx := h.sub x hx hl
  refine ⟨fun y hy hfy hly => ?_, ?_, fun y hy hly => ?_⟩
  · by_cases hyx : y = x
    · subst hyx
      split <;> omega
    · have hly : left y = false := by simpa [hyx] using hly
      have := h.lo y hy hfy hly
      split <;> omega
  · split
    · exact .inr ⟨hp, hx, hfx⟩
    · rename_i h1
      rcases h.is with h2 | h2
      · omega
      · exact .inr h2
  · simp at hly
    exact h.sub y hy hly.1
set_option maxRecDepth 100000 in
set_option maxHeartbeats 8000000 in
theorem first_any {F : Nat → Prop} {W0 w : World} {pre post : List Item} {b N : Nat} {f : Int → Option Nat} (h : Sep F W0 w (fmI b N f :: post)) (hpos : ∀ x m, f x = some m → 0 ≤ x) :
    Calls Try.prog 167 #[.map (some b)] w fun e w' => ∃ z : Int, e = .returned (.int .i64 z) ∧ Sep F W0 w' (fmI b N f :: post) ∧ ((z = -1 ∧ ∀ x, wfI x → f x = none) ∨ (0 ≤ z ∧ wfI z ∧ f z ≠ none ∧ ∀ x, wfI x → f x ≠ none → z ≤ x)) := by
  have HS := hide h
  have HP := hide hpos
  clear h hpos
  go_enter Try.func167, Try.ntmps167
  go_wp2_with (first
    | (at_range
       refine wpList_fmBegin rfl (.tmp 5) rfl HS.out 0 rfl rfl ?_
       intro w4 cnt hcn hS4 hsz4
       (have HS4 := hide hS4)
       clear hS4 HS))
  go_frame
  obtain ⟨r, hr⟩ : ∃ r, w.heap.size = r := ⟨_, rfl⟩
  rw [hr] at HS4 ⊢
  clear hsz4 hr
  go_loopw [3] (fun s3 wr => ∃ (z : Int) (left : Int → Bool) (cn : Nat), s3 = .int .i64 z ∧ Hid (LeastI f left z) ∧ Sep F W0 wr (fmR b r N f left cn :: post)) (fun _ wr => wr.rangeLeft b r)
  case atStart => exact ⟨-1, _, _, rfl, ⟨fun x _ h1 h2 => by cases hf : f x <;> simp_all, .inl rfl, fun x _ h1 => by cases hf : f x <;> simp_all⟩, HS4.out⟩
  case round =>
    clear HS4
    obtain ⟨z, left, cn, rfl, HL, hS⟩ := hrel
    have HM := hide (fmR_left (hS.get 0 rfl))
    have hSO := hS
    go_wp2_with (first
      | (at_next
         refine wpList_fmNext rfl (.tmp 6) rfl hSO 0 rfl rfl ?_ ?_))
    · intro hc0 hl0
      have HL0 := hide hl0
      clear hSO hl0
      have HS5 := hide hS
      clear hS
      go_wp2_with fail
      have hS6 : Sep F W0 wr (fmI b N f :: post) := HS5.out.step 0 rfl (Chg.refl _ wr) (fmI b N f) (fmR_owns (HS5.out.get 0 rfl)) (fun g hg => .inl (.inl hg))
      refine bodyPost_ret (v := .int .i64 z) (by simp [results, Try.results167, go_sem]) rfl ⟨z, rfl, hS6, ?_⟩
      rcases HL.out.is with h1 | ⟨h1, h2, h3⟩
      · refine .inl ⟨h1, fun x hx => ?_⟩
        cases hfx : f x with
        | none => rfl
        | some m =>
          have := (HL.out.lo x hx (by rw [hfx]; simp) (HL0.out x hx)).1
          omega
      · exact .inr ⟨h1, h2, h3, fun x hx hfx => (HL.out.lo x hx hfx (HL0.out x hx)).2⟩
    · intro x m w5 cnt' hx hl hc hfx hS5 hsz hent
      have HS5 := hide hS5
      have HST := hide (HL.out.step hx hl (HP.out x m hfx))
      have HC := hide hc
      have HF := hide hfx
      clear hSO hS5 hS hx hl hc hfx HL
      by_cases h1 : z < 0
      · have t1 : decide (z < 0) = true := by simp [h1]
        rw [if_pos (.inl h1)] at HST
        clear h1
        go_wp2_with fail
        go_roundw
        case rel => exact ⟨x, _, cnt', rfl, HST.out, HS5.out⟩
        case measure => rw [fmR_left (HS5.out.get 0 rfl), HM.out]; exact HC.out
      · have t1 : decide (z < 0) = false := by simp; omega
        by_cases h2 : x < z
        · have t2 : decide (x < z) = true := by simp [h2]
          rw [if_pos (.inr h2)] at HST
          clear h1 h2
          go_wp2_with fail
          go_roundw
          case rel => exact ⟨x, _, cnt', rfl, HST.out, HS5.out⟩
          case measure => rw [fmR_left (HS5.out.get 0 rfl), HM.out]; exact HC.out
        · have t2 : decide (x < z) = false := by simp; omega
          rw [if_neg (by omega)] at HST
          clear h1 h2
          go_wp2_with fail
          go_roundw
          case rel => exact ⟨z, _, cnt', rfl, HST.out, HS5.out⟩
          case measure => rw [fmR_left (HS5.out.get 0 rfl), HM.out]; exact HC.out
end Go.Proofs.Ytjphckfbbiehdaa

namespace Go.Proofs.Ytjphckfbbiehdaa
open Go.RowKit
/-- The program's yard: where its maps lie, how many each may have, what they say. -/
structure BdY where
  mb : Nat → Nat
  nn : Nat → Nat
  fr : Nat → Int → Option Nat
  tb : Nat
  tn : Nat
  tf : Int → Option Nat
def bdC (L : Nat) (t : BdY) : Array Value := #[.int .i64 (L : Int), .map (some (t.mb 0)), .map (some (t.mb 1)), .map (some (t.mb 2)), .map (some (t.mb 3)), .map (some (t.mb 4)), .map (some (t.mb 5)), .map (some (t.mb 6)), .map (some (t.mb 7)), .map (some t.tb)]
def bdM (t : BdY) : List Item := (List.range 8).map fun j => fmI (t.mb j) (t.nn j) (t.fr j)
def bdL (B L : Nat) (t : BdY) : List Item := blkI B 243 (bdC L t) :: fmI t.tb t.tn t.tf :: bdM t
theorem bdC_at (L : Nat) (t : BdY) {k : Nat} (hk : k < 8) : (bdC L t)[1 + k]? = some (.map (some (t.mb k))) := by
  unfold bdC
  rcases (show k = 0 ∨ k = 1 ∨ k = 2 ∨ k = 3 ∨ k = 4 ∨ k = 5 ∨ k = 6 ∨ k = 7 by omega) with rfl | rfl | rfl | rfl | rfl | rfl | rfl | rfl <;> rfl
theorem bdM_at (t : BdY) {k : Nat} (hk : k < 8) : (bdM t)[k]? = some (fmI (t.mb k) (t.nn k) (t.fr k)) := by
  unfold bdM
  rw [List.getElem?_map, List.getElem?_range hk]; rfl
def BdY.up (t : BdY) (k n : Nat) (f : Int → Option Nat) : BdY := { t with nn := fun j => if j = k then n else t.nn j, fr := fun j => if j = k then f else t.fr j }
theorem bdM_set (t : BdY) {k : Nat} (hk : k < 8) (n : Nat) (f : Int → Option Nat) : (bdM t).set k (fmI (t.mb k) n f) = bdM (t.up k n f) := by
  apply List.ext_getElem?
  intro j
  rw [List.getElem?_set]
  unfold bdM BdY.up
  by_cases hj : k = j
  · subst hj
    rw [if_pos rfl, if_pos (by simpa using hk), List.getElem?_map, List.getElem?_range hk]
    simp
  · rw [if_neg hj, List.getElem?_map, List.getElem?_map]
    rcases Nat.lt_or_ge j 8 with h | h
    · rw [List.getElem?_range h]
      simp [show ¬ j = k from fun e => hj e.symm]
    · rw [List.getElem?_eq_none (by simpa using h)]; rfl
theorem bdL_set (B L : Nat) (t : BdY) (x : Item) {k : Nat} (hk : k < 8) (n : Nat) (f : Int → Option Nat) : (x :: bdL B L t).set (3 + k) (fmI (t.mb k) n f) = x :: bdL B L (t.up k n f) := by
  rw [show 3 + k = k + 1 + 1 + 1 by omega]
  unfold bdL
  rw [List.set_cons_succ, List.set_cons_succ, List.set_cons_succ, bdM_set t hk]
  rfl
theorem bdL_at (B L : Nat) (t : BdY) (x : Item) {k : Nat} (hk : k < 8) : (x :: bdL B L t)[3 + k]? = some (fmI (t.mb k) (t.nn k) (t.fr k)) := by
  rw [show 3 + k = k + 1 + 1 + 1 by omega]
  unfold bdL
  rw [List.getElem?_cons_succ, List.getElem?_cons_succ, List.getElem?_cons_succ, bdM_at t hk]
end Go.Proofs.Ytjphckfbbiehdaa

namespace Go.Proofs.Ytjphckfbbiehdaa
open Go.RowKit
def bdC0 (L : Nat) (mo : Nat → Option Nat) (tb : Nat) : Array Value := #[.int .i64 (L : Int), .map (mo 0), .map (mo 1), .map (mo 2), .map (mo 3), .map (mo 4), .map (mo 5), .map (mo 6), .map (mo 7), .map (some tb)]
theorem bdC0_set (L : Nat) (mo : Nat → Option Nat) (tb g : Nat) {k : Nat} (hk : k < 8) : (bdC0 L mo tb).setIfInBounds (1 + k) (.map (some g)) = bdC0 L (fun j => if j = k then some g else mo j) tb := by
  unfold bdC0
  rcases (show k = 0 ∨ k = 1 ∨ k = 2 ∨ k = 3 ∨ k = 4 ∨ k = 5 ∨ k = 6 ∨ k = 7 by omega) with rfl | rfl | rfl | rfl | rfl | rfl | rfl | rfl <;> simp
theorem bdC0_at (L : Nat) (mo : Nat → Option Nat) (tb : Nat) {k : Nat} (hk : k < 8) : (bdC0 L mo tb)[1 + k]? = some (.map (mo k)) := by
  unfold bdC0
  rcases (show k = 0 ∨ k = 1 ∨ k = 2 ∨ k = 3 ∨ k = 4 ∨ k = 5 ∨ k = 6 ∨ k = 7 by omega) with rfl | rfl | rfl | rfl | rfl | rfl | rfl | rfl <;> rfl
theorem range_snoc {f f' : Nat → Item} {k : Nat} {x : Item} (h : ∀ j, j < k → f' j = f j) (hx : f' k = x) : (List.range k).map f ++ [x] = (List.range (k + 1)).map f' := by
  rw [List.range_succ, List.map_append, List.map_singleton, hx]
  congr 1
  exact List.map_congr_left fun j hj => (h j (List.mem_range.1 hj)).symm
set_option maxRecDepth 100000 in
set_option maxHeartbeats 8000000 in
theorem bdopen_any (w : World) (L : Nat) (hL : L ≤ 7) : Calls Try.prog 58 #[.int .i64 (L : Int)] w fun e w' => ∃ B t, e = .returned (.pointer (some ⟨B, 0, none⟩)) ∧ Sep No w w' (bdL B L t) ∧ t.fr = (fun j => if j = L then putO (fun _ => none) 0 1 else fun _ => none) ∧ t.tf = (fun _ => none) ∧ (∀ j, t.nn j ≤ 1) ∧ t.tn = 0 := by
  have hmm := @run_makeMap Try.prog
  obtain ⟨g, hg⟩ : ∃ g, w.heap.size = g := ⟨_, rfl⟩
  have hS0 := ((Sep.nil No w).fmNew hg).blkAt 243 (bdC0 L (fun _ => none) g) (g := g + 1) (by simp [hg])
  have HS0 := hide (show Sep No w ((w.alloc (.map #[] 0)).alloc (.cells (bdC0 L (fun _ => none) g) 243)) [blkI (g + 1) 243 (bdC0 L (fun _ => none) g), fmI g 0 (fun _ => none)] from hS0.perm (List.perm_append_comm (l₁ := [_]) (l₂ := [_])))
  clear hS0
  go_enter Try.func58, Try.ntmps58
  go_wp2_with fail
  go_loopw [9] (fun s9 wr => ∃ (k : Nat) (mb : Nat → Nat), k ≤ 8 ∧ s9 = .int .i64 (k : Int) ∧ Sep No w wr (blkI (g + 1) 243 (bdC0 L (fun j => if j < k then some (mb j) else none) g) :: fmI g 0 (fun _ => none) :: (List.range k).map fun j => fmI (mb j) 0 (fun _ => none))) (fun s9 _ => 8 - (intOf s9).toNat)
  case atStart => exact ⟨0, fun _ => 0, by omega, rfl, HS0.out⟩
  case round =>
    clear HS0
    obtain ⟨k, mb, hk, rfl, hS⟩ := hrel
    by_cases hlt : k < 8
    · have t1 : decide ((k : Int) < 8) = true := by simp; omega
      have t2 : (k : Int) < 8 := by omega
      obtain ⟨gn, hgn⟩ : ∃ x, wr.heap.size = x := ⟨_, rfl⟩
      have hS1 := hS.fmNew hgn
      obtain ⟨b1, b2, b3, -⟩ := hS1.rules 0 (g := g + 1) (t := 243) rfl
      have b5 := (b1 (1 + k)).trans (bdC0_at L _ g hlt)
      rw [if_neg (Nat.lt_irrefl k)] at b5
      have hS2 := hS1.set_ 0 (g := g + 1) (t := 243) rfl (1 + k) (.map (some gn))
      rw [bdC0_set _ _ _ _ hlt] at hS2
      have HS2 := hide (show Sep No w ((wr.alloc (.map #[] 0)).setCell ⟨g + 1, 1 + k, none⟩ (.map (some gn))) (blkI (g + 1) 243 (bdC0 L (fun j => if j < k + 1 then some ((fun j => if j = k then gn else mb j) j) else none) g) :: fmI g 0 (fun _ => none) :: (List.range (k + 1)).map fun j => fmI ((fun j => if j = k then gn else mb j) j) 0 (fun _ => none)) from by
        rw [← range_snoc (f := fun j => fmI (mb j) 0 (fun _ => none)) (x := fmI gn 0 (fun _ => none)) (fun j hj => by simp [show ¬ j = k by omega]) (by simp)]
        have e : (fun j => if j < k + 1 then some ((fun j => if j = k then gn else mb j) j) else none) = fun j => if j = k then some gn else if j < k then some (mb j) else none := by
          funext j
          by_cases h1 : j = k
          · simp [h1]
          · by_cases h2 : j < k
            · simp [h1, h2, show j < k + 1 by omega]
            · simp [h1, h2, show ¬ j < k + 1 by omega]
        rw [e]
        exact hS2)
      clear b1 hS hS1 hS2
      go_wp2_with fail
      go_roundw
      case rel => exact ⟨k + 1, _, by omega, by go_num, HS2.out⟩
      case measure => simp [intOf]; omega
    · obtain rfl : k = 8 := by omega
      obtain ⟨t, ht⟩ : ∃ t : BdY, t = ⟨mb, fun _ => 0, fun _ _ => none, g, 0, fun _ => none⟩ := ⟨_, rfl⟩
      have hS1 : Sep No w wr (bdL (g + 1) L t) := by rw [ht]; exact hS
      have hL8 : L < 8 := by omega
      obtain ⟨b1, b2, b3, -⟩ := hS1.rules 0 (g := g + 1) (t := 243) rfl
      have b5 := (b1 (1 + L)).trans (bdC_at L t hL8)
      have i1 : (L : Int) < 8 := by omega
      have i2 : decide ((L : Int) < 0) = false := by simp
      have hat : (bdL (g + 1) L t)[2 + L]? = some (fmI (t.mb L) (t.nn L) (t.fr L)) := by
        have := bdL_at (g + 1) L t (fmI 0 0 fun _ => none) hL8
        rw [show 3 + L = 2 + L + 1 by omega, List.getElem?_cons_succ] at this
        exact this
      have hset : ∀ n f, (bdL (g + 1) L t).set (2 + L) (fmI (t.mb L) n f) = bdL (g + 1) L (t.up L n f) := fun n f => by
        have := bdL_set (g + 1) L t (fmI 0 0 fun _ => none) hL8 n f
        rw [show 3 + L = 2 + L + 1 by omega, List.set_cons_succ] at this
        injection this
      have HAT := hide hat
      have HSET := hide hset
      have HNN := hide (show ∀ j, t.nn j = 0 from fun j => by rw [ht])
      have HFR := hide (show ∀ j, t.fr j = fun _ => none from fun j => by rw [ht])
      have HTF := hide (show t.tf = (fun _ => none) ∧ t.tn = 0 from by rw [ht]; exact ⟨rfl, rfl⟩)
      have HS1 := hide hS1
      clear hS hS1 b1 hat hset ht
      go_wp2_with (first
        | (at_mapUpdate
           refine wpList_fmPut rfl (.tmp 24) (.const (.int .i64 0)) (.const (.int .i64 1)) rfl HS1.out (2 + L) HAT.out (by have := HNN.out L; unfold maxLen; omega) 0 1 rfl rfl rfl (wfI_of (by omega) (by omega)) (wfI_of (by omega) (by omega)) ?_
           intro w5 hS5
           (rw [HSET.out] at hS5)
           (have HS5 := hide hS5)
           clear hS5 HS1))
      refine bodyPost_ret (v := .pointer (some ⟨g + 1, 0, none⟩)) (by simp [results, Try.results58, go_sem]) rfl ⟨g + 1, _, rfl, HS5.out, ?_, HTF.out.1, ?_, HTF.out.2⟩
      · funext j
        show (if j = L then _ else _) = _
        rw [HFR.out L]
        split
        · rfl
        · exact HFR.out j
      · intro j
        show (if j = L then _ else _) ≤ 1
        have h1 := HNN.out L
        have h2 := HNN.out j
        split <;> omega
end Go.Proofs.Ytjphckfbbiehdaa
