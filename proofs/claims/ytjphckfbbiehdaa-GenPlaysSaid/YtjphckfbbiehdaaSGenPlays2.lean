/- numbers: ref.Has, ref.Ints. graph: what a graph's memory holds; the test of an object; slices.ContainsFunc over objects. graph: values(g), an iterator: its contract. -/
import Derived.Test.YtjphckfbbiehdaaSGenPlays1
import Derived.RangeFuncNested
import Derived.RangeFuncBox
import Derived.RangeFuncBound
import Derived.RangeFuncCalls
import Derived.RangeFuncLeaves
import Derived.Shelf.Abstract
import Derived.Shelf.RegionOpen
import Derived.OwnWalkIn
import Derived.TacticsInMore
import Derived.LoopNIn
import Derived.LoopIn
set_option linter.unusedSimpArgs false
set_option linter.unusedVariables false
namespace Go.Proofs.Ytjphckfbbiehdaa
open Go.RowKit
theorem sInt : SliceT Try.prog 35 3 1 8 := SliceT.mk_ Try.underlying35 (z := .int .i64 0) (by kernel_rfl) rfl (by omega)
/-- A list of numbers as cells. -/
abbrev ints (l : List Int) : List Value := l.map (Value.int .i64)
theorem ret_bool {a b : Bool} (h : a = b) : Ending.returned (.bool a) = .returned (.bool b) := by rw [h]
def RetB (b : Bool) (w : World) : Ending → World → Prop := fun e w' => e = .returned (.bool b) ∧ w = w'

set_option maxHeartbeats 400000 in
theorem has_any (w : World) (D : Nat → Prop) (A : Option Addr) (n c : Nat) (xs : List Int) (x : Int) (hn : n ≤ 9223372036854775807)
    (h : Rd w D 1 A n (ints xs)) :
    Calls Try.prog 45 #[.slice A n c, .int .i64 x] w (RetB (decide (x ∈ xs)) w) := by
  have hl : xs.length = n := by have := h.1; simpa using this
  have HL := hide hl
  clear hl
  go_enter Try.func45, Try.ntmps45
  go_wp2
  go_loop [6, 9] (fun _ i => ∃ k : Nat, k ≤ n ∧ i = .int .i64 k ∧ Hid (x ∉ xs.take k)) (fun _ i => n - (intOf i).toNat)
  case atStart => exact ⟨0, by omega, rfl, by simp [Hid]⟩
  case round =>
    obtain ⟨k, hk, rfl, hnot⟩ := hrel
    by_cases hlt : k < n
    · obtain ⟨ad, rfl, hb, _, hc⟩ := h.at_ hlt
      have hkl : k < xs.length := by rw [HL.out]; exact hlt
      have hcell := hc (.int .i64 xs[k]) (by simp [List.getElem?_eq_getElem hkl])
      clear hc
      by_cases hx : x = xs[k]
      · have hx2 : (x == xs[k]) = true := by simp [hx]
        have HX := hide hx
        clear hx
        go_wp2
        go_ret
        exact ⟨ret_bool (show true = decide (x ∈ xs) from by rw [HX.out]; simp), rfl⟩
      · have hx2 : (x == xs[k]) = false := by simp [hx]
        have HX := hide hx
        clear hx
        go_wp2
        go_round
        case rel => exact ⟨k + 1, by omega, by go_num, by
          have h1 := hnot.out
          have h2 := HX.out
          show x ∉ _
          rw [List.take_succ_eq_append_getElem hkl]; simp only [List.mem_append, List.mem_singleton, h1, h2, or_self, not_false_eq_true]⟩
        case measure => simp [intOf]; omega
    · go_wp2
      go_ret
      have h1 := hnot.out
      rw [List.take_of_length_le (by rw [HL.out]; omega)] at h1
      exact ⟨ret_bool (show false = decide (x ∈ xs) from by simpa using h1), rfl⟩

end Go.Proofs.Ytjphckfbbiehdaa

namespace Go.Proofs.Ytjphckfbbiehdaa
open Go.RowKit
/-- A value: is it a reference, and its number. -/
abbrev Val := Bool × Int
def vals (l : List Val) : List Value := l.flatMap fun v => [.bool v.1, .int .i64 v.2]
theorem vals_length (l : List Val) : (vals l).length = l.length * 2 := by
  unfold vals; induction l with
  | nil => rfl
  | cons a l ih => simp [List.flatMap_cons] at ih ⊢; omega
theorem vals_at (l : List Val) (k : Nat) (h : k < l.length) : (vals l)[k * 2]? = some (.bool l[k].1) ∧ (vals l)[k * 2 + (0 + 1)]? = some (.int .i64 l[k].2) := by
  unfold vals
  induction l generalizing k with
  | nil => simp at h
  | cons a l ih =>
    cases k with
    | zero => exact ⟨rfl, rfl⟩
    | succ k =>
      have h' : k < l.length := by simpa using h
      have := ih k h'
      simp only [List.flatMap_cons]
      rw [show (k + 1) * 2 = k * 2 + 2 from by omega]
      simpa [Nat.add_right_comm _ 2] using this
/-- An object: where its fields lie, and what they are. -/
structure Ob where
  A : Option Addr
  n : Nat
  c : Nat
  fields : List Val
def Ob.val (o : Ob) : Value := .slice o.A o.n o.c
/-- Objects that read, in blocks of a set D. -/
structure ObsRd (w : World) (D : Nat → Prop) (A : Option Addr) (n : Nat) (obs : List Ob) : Prop where
  row : Rd w D 1 A n (obs.map Ob.val)
  each : ∀ o ∈ obs, Rd w D 2 o.A o.n (vals o.fields)
theorem ObsRd.len {w : World} {D : Nat → Prop} {A : Option Addr} {n : Nat} {obs : List Ob} (h : ObsRd w D A n obs) : obs.length = n := by
  have := h.row.1; simpa using this
theorem ObsRd.flen {w : World} {D : Nat → Prop} {A : Option Addr} {n : Nat} {obs : List Ob} (h : ObsRd w D A n obs) {o : Ob} (ho : o ∈ obs) : o.fields.length = o.n := by
  have := (h.each o ho).1; rw [vals_length] at this; omega
theorem ObsRd.keep {w w' : World} {D : Nat → Prop} {A : Option Addr} {n : Nat} {obs : List Ob} (h : ObsRd w D A n obs) (hs : w.heap.size ≤ w'.heap.size) (hk : ∀ k, k < w.heap.size → D k → w'.heap[k]? = w.heap[k]?) : ObsRd w' D A n obs :=
  ⟨h.row.keep hs hk, fun o ho => (h.each o ho).keep hs hk⟩
theorem ObsRd.below {w w' : World} {D : Nat → Prop} {A : Option Addr} {n : Nat} {obs : List Ob} (h : ObsRd w D A n obs) (hb : Below w.heap.size w w') : ObsRd w' D A n obs := h.keep hb.size fun k hk _ => hb.block k hk
theorem ObsRd.chg {w w' : World} {D S : Nat → Prop} {A : Option Addr} {n : Nat} {obs : List Ob} (h : ObsRd w D A n obs) (hc : Chg S w w') (hM : ∀ g, S g → ¬ D g) : ObsRd w' D A n obs := h.keep hc.size fun k hk hd => hc.block k hk (fun hm => hM k hm hd)
theorem ObsRd.more {w : World} {D D' : Nat → Prop} {A : Option Addr} {n : Nat} {obs : List Ob} (h : ObsRd w D A n obs) (hD : ∀ k, k < w.heap.size → D k → D' k) : ObsRd w D' A n obs :=
  ⟨h.row.more hD, fun o ho => (h.each o ho).more hD⟩
def large (o : Ob) : Bool := decide (4 < o.n)
set_option maxHeartbeats 400000 in
theorem large_any (w : World) (o : Ob) : Calls Try.prog 127 #[.agg #[o.val]] w fun e w' => e = .returned (.bool (large o)) ∧ Below w.heap.size w w' := by
  unfold large Ob.val
  go_enter Try.func127, Try.ntmps127
  go_wp2_with fail
  go_ret
  exact ⟨ret_bool (by rw [decide_eq_decide]; omega), (by repeat (first | with_reducible exact Below.refl _ _ | with_reducible (refine Below.setCell ?_ (by first | omega | (simp; done) | (simp; omega)) _) | with_reducible (refine Below.alloc ?_ (by first | omega | (simp; done) | (simp; omega)) _) | with_reducible refine Below.drew ?_ | with_reducible refine below_drewN ?_ _))⟩
set_option maxHeartbeats 400000 in
theorem index_large (w : World) (A : Option Addr) (n c : Nat) (obs : List Ob) (hn : n ≤ 1000) (h : ObsRd w (fun _ => True) A n obs) :
    Calls Try.prog 169 #[.slice A n c, .func (.func 127) #[] #[]] w fun e w' => (∃ r : Int, e = .returned (.int .i64 r) ∧ (0 ≤ r ↔ ∃ x ∈ obs, large x = true)) ∧ Below w.heap.size w w' := by
  have HL := hide h.len
  go_enter Try.func169, Try.ntmps169
  go_wp2_with fail
  go_loopw [5, 8] (fun _ i wr => ∃ k : Nat, k ≤ n ∧ i = .int .i64 k ∧ Hid (∀ t ∈ obs.take k, large t = false) ∧ Below w.heap.size w wr) (fun _ i _ => n - (intOf i).toNat)
  case atStart => exact ⟨0, by omega, rfl, by simp [Hid], Below.refl _ _⟩
  case round =>
    obtain ⟨k, hk, rfl, hnot, hB⟩ := hrel
    by_cases hlt : k < n
    · obtain ⟨ad, rfl, _, _, hc⟩ := (h.row.below hB).at_ hlt
      have hkl : k < obs.length := by rw [HL.out]; exact hlt
      have hcell := hc obs[k].val (by simp [List.getElem?_eq_getElem hkl])
      unfold Ob.val at hcell
      clear hc
      go_wp2_with fail
      refine (large_any _ obs[k]).mono ?_
      rintro e w1 ⟨rfl, hB1⟩
      have hz := hB.size
      cases hq : large obs[k] with
      | true =>
        have HQ := hide hq
        clear hq
        go_wp2_with fail
        go_ret
        exact ⟨⟨k, rfl, ⟨fun _ => ⟨obs[k], List.getElem_mem hkl, HQ.out⟩, fun _ => by omega⟩⟩, hB.trans (hB1.mono hz)⟩
      | false =>
        have HQ := hide hq
        clear hq
        go_wp2_with fail
        go_roundw
        case rel => exact ⟨k + 1, by omega, by go_num, by
          have h1 := hnot.out
          have h2 := HQ.out
          show ∀ t ∈ obs.take (k + 1), large t = false
          rw [List.take_succ_eq_append_getElem hkl]
          intro t ht
          rcases List.mem_append.1 ht with h3 | h3
          · exact h1 t h3
          · simp only [List.mem_singleton] at h3; subst h3; exact h2, hB.trans (hB1.mono hz)⟩
        case measure => simp [intOf]; omega
    · go_wp2_with fail
      go_ret
      have h1 := hnot.out
      rw [List.take_of_length_le (by rw [HL.out]; omega)] at h1
      exact ⟨⟨-1, rfl, ⟨fun h => by omega, fun ⟨t, ht, htx⟩ => by rw [h1 t ht] at htx; cases htx⟩⟩, hB⟩
set_option maxHeartbeats 400000 in
theorem contains_large (w : World) (A : Option Addr) (n c : Nat) (obs : List Ob) (hn : n ≤ 1000) (h : ObsRd w (fun _ => True) A n obs) :
    Calls Try.prog 128 #[.slice A n c, .func (.func 127) #[] #[]] w fun e w' => e = .returned (.bool (obs.any large)) ∧ Below w.heap.size w w' := by
  go_enter Try.func128, Try.ntmps128
  go_wp2_with fail
  refine (index_large w A n c obs hn h).mono ?_
  rintro e w1 ⟨⟨r, rfl, hr⟩, hB⟩
  have hb : obs.any large = decide (0 ≤ r) := by
    rw [Bool.eq_iff_iff]; simp only [List.any_eq_true, decide_eq_true_eq]; exact hr.symm
  have HB := hide hb
  clear hb hr
  go_wp2_with fail
  go_ret
  exact ⟨ret_bool HB.out.symm, hB⟩
end Go.Proofs.Ytjphckfbbiehdaa

namespace Go.Proofs.Ytjphckfbbiehdaa
open Go.RowKit Go.Shelf
attribute [local go_sem] Oper.semAt_some
/-- All that stand in a graph. -/
def allVals (obs : List Ob) (roots : List Val) : List Val := roots ++ obs.flatMap Ob.fields
def encVal (v : Val) : Array Value := #[.agg #[.bool v.1, .int .i64 v.2]]
/-- What a round keeps: whatever lay below n₀, and the graph's own block. -/
def KpG (n₀ Bg : Nat) (W W' : World) : Prop := Below n₀ W W' ∧ W'.heap[Bg]? = W.heap[Bg]?
theorem KpG.trans_ {n₀ Bg : Nat} {A B C : World} (h : KpG n₀ Bg A B) (k : KpG n₀ Bg B C) : KpG n₀ Bg A C := ⟨h.1.trans k.1, k.2.trans h.2⟩
theorem KpG.alloc {n₀ Bg : Nat} {A : World} (h1 : n₀ ≤ A.heap.size) (h2 : Bg < A.heap.size) (o : Obj) : KpG n₀ Bg A (A.alloc o) := ⟨(Below.refl _ _).alloc h1 _, Below.heap_alloc A o Bg h2⟩
theorem ObsRd.kp {n₀ : Nat} {w w' : World} {A : Option Addr} {n : Nat} {obs : List Ob} (h : ObsRd w (fun g => g < n₀) A n obs) (hb : Below n₀ w w') : ObsRd w' (fun g => g < n₀) A n obs := h.keep hb.size fun k _ hd => hb.block k hd
theorem Rd.kp {n₀ : Nat} {w w' : World} {size n : Nat} {A : Option Addr} {xs : List Value} (h : Rd w (fun g => g < n₀) size A n xs) (hb : Below n₀ w w') : Rd w' (fun g => g < n₀) size A n xs := h.keep hb.size fun k _ hd => hb.block k hd
set_option maxRecDepth 100000 in
set_option maxHeartbeats 8000000 in
theorem values1_in (F : Fence) (n : Nat) (h7 : F.fn 170) (hro : F.round = none) (hn : 1 ≤ n) (l Bg n₀ : Nat) (AO AR : Option Addr) (nO cO nR cR : Nat) (obs : List Ob) (roots : List Val) (hnO : nO ≤ 1000) (hnR : nR ≤ 1000) (hF : ∀ o ∈ obs, o.n ≤ 1000) (J Jx : List Val → World → Prop)
    (hY : ∀ pre x W, J pre W → pre.length < (allVals obs roots).length → YieldAt F (n - 1) Try.prog l (encVal x) W fun e W' =>
      (e = .returned (.bool true) ∧ J (pre ++ [x]) W' ∧ KpG n₀ Bg W W') ∨ (e = .returned (.bool false) ∧ Jx (pre ++ [x]) W'))
    (W : World) (hJ : AbidesFrom W.heap.size J) (hn₀ : n₀ ≤ W.heap.size) (hB : W.heap[Bg]? = some (.cells #[.slice AO nO cO, .slice AR nR cR] 27 (0, 0))) (hO : ObsRd W (fun g => g < n₀) AO nO obs) (hR : Rd W (fun g => g < n₀) 2 AR nR (vals roots)) (h0 : J [] W) :
    CallsIn F n Try.prog 170 #[.func (.yield l) #[] #[], .pointer (some ⟨Bg, 0, none⟩)] W fun e W' => (∃ v, e = .returned v) ∧
      ((∃ ys, ys = allVals obs roots ∧ J ys W') ∨ (∃ pre, pre <+: allVals obs roots ∧ Jx pre W')) := by
  refine callsIn_of_wp Try.func170 rfl h7 ?_ hro
  simp only [Try.ntmps170, List.size_toArray, List.length_cons, List.length_nil, Nat.reduceAdd, Nat.reduceSub, Array.replicate_succ, Array.replicate_zero, List.push_toArray, List.append_toArray, List.nil_append, List.cons_append]
  have g0 : W.cell? ⟨Bg, 0, none⟩ = some (.slice AO nO cO) := by simp [World.cell?, hB]
  have g1 : W.cell? ⟨Bg, 1, none⟩ = some (.slice AR nR cR) := by simp [World.cell?, hB]
  have HB := hide hB
  have hBg := (Array.getElem?_eq_some_iff.1 hB).1
  clear hB
  gi_wp2
  gi_loopw [12] (fun i wr => ∃ k : Nat, k ≤ nR ∧ i = .int .i64 k ∧ J (roots.take k) wr ∧ KpG n₀ Bg W wr) (fun i _ => nR - (intOf i).toNat)
  case atStart => exact ⟨0, Nat.zero_le _, rfl, by simpa using h0, Below.refl _ _, rfl⟩
  case round =>
    obtain ⟨k, hk, rfl, hJs, hKp⟩ := hrel
    have hRl : roots.length = nR := by have := hR.1; rw [vals_length] at this; omega
    have HRL := hide hRl
    have hsz := hKp.1.size
    clear hRl
    by_cases hlt : k < nR
    · have hkl : k < roots.length := by rw [HRL.out]; exact hlt
      obtain ⟨ad, hA, had0, had, hc, hd⟩ := (hR.kp hKp.1).atN hlt
      obtain ⟨v0, v1⟩ := vals_at roots k hkl
      have e0 := hc _ v0
      have e1 := hd 0 _ v1
      have HT := hide (List.take_succ_eq_append_getElem hkl)
      obtain ⟨x, hx⟩ : ∃ x, roots[k] = x := ⟨_, rfl⟩
      rw [hx] at e0 e1 HT
      subst hA
      clear hc hd v0 v1 hx
      obtain ⟨fn, tmps, assign, body, hy, hR'⟩ := hY (roots.take k) x (wr.alloc (.cells #[.bool x.1, .int .i64 x.2] 107)) (hJ _ _ _ none hJs (World.grownBy_alloc wr _ none) (fun r e => by cases e)) (by simp [allVals]; omega)
      unfold encVal at hy
      gi_wp2
      refine hR'.mono ?_
      rintro e W3 (⟨rfl, hJ3, hk3⟩ | ⟨rfl, hJx3⟩)
      · gi_wp2
        go_roundw
        case rel => exact ⟨k + 1, by omega, by go_num, by rw [HT.out]; exact hJ3, hKp.trans_ (KpG.trans_ (KpG.alloc (by omega) (by omega) _) hk3)⟩
        case measure => simp [intOf]; omega
      · gi_wp2
        refine bodyPost_ret (results_none rfl _ _ _) rfl ?_
        exact ⟨⟨_, rfl⟩, .inr ⟨_, by rw [← HT.out]; exact (List.take_prefix _ _).trans (List.prefix_append _ _), hJx3⟩⟩
    · obtain rfl : k = nR := by omega
      rw [show roots.take k = roots from List.take_of_length_le (by rw [HRL.out]; omega)] at hJs
      have g2 : wr.cell? ⟨Bg, 0, none⟩ = some (.slice AO nO cO) := by simp [World.cell?, hKp.2.trans HB.out]
      gi_wp2
      clear g2
      have HJs := hide hJs
      have HKp := hide hKp
      clear hJs hKp hsz
      gi_loopw [24] (fun i w2 => ∃ j : Nat, j ≤ nO ∧ i = .int .i64 j ∧ J (roots ++ (obs.take j).flatMap Ob.fields) w2 ∧ KpG n₀ Bg W w2) (fun i _ => nO - (intOf i).toNat)
      case atStart => exact ⟨0, Nat.zero_le _, rfl, by simpa using HJs.out, HKp.out⟩
      case round =>
        clear HJs HKp
        obtain ⟨j, hj, rfl, hJs, hKp⟩ := hrel
        have HOL := hide hO.len
        have hsz := hKp.1.size
        by_cases hlt : j < nO
        · have hjl : j < obs.length := by rw [HOL.out]; exact hlt
          obtain ⟨ad, hA, had0, had, hc⟩ := (hO.kp hKp.1).row.at_ hlt
          have e0 := hc obs[j].val (by simp [List.getElem?_eq_getElem hjl])
          have hEach := hO.each _ (List.getElem_mem hjl)
          have hFl := hO.flen (List.getElem_mem hjl)
          have hF1 := hF _ (List.getElem_mem hjl)
          have HT := hide (List.take_succ_eq_append_getElem hjl)
          obtain ⟨o, ho⟩ : ∃ o, obs[j] = o := ⟨_, rfl⟩
          rw [ho] at e0 HT hEach hFl hF1
          unfold Ob.val at e0
          subst hA
          have HFL := hide hFl
          have hsub : (obs.take j).flatMap Ob.fields ++ o.fields <+: obs.flatMap Ob.fields := by
            have h2 := (List.take_prefix (j + 1) obs)
            obtain ⟨r, hr⟩ := h2
            rw [HT.out] at hr
            have h5 := congrArg (fun l => l.flatMap Ob.fields) hr
            simp only [List.flatMap_append, List.flatMap_cons, List.flatMap_nil, List.append_nil] at h5
            exact ⟨_, h5⟩
          have HSUB := hide hsub
          clear hc ho hFl hsub
          have hsz2 : n₀ ≤ wr.heap.size := by omega
          have hsz3 : Bg < wr.heap.size := by omega
          have HJ0 := hide (hJ _ _ _ none hJs (World.grownBy_alloc wr (.cells #[.slice o.A o.n o.c] 119) none) (fun r e => by cases e))
          have HK0 := hide (hKp.trans_ (KpG.alloc (n₀ := n₀) hsz2 hsz3 (.cells #[.slice o.A o.n o.c] 119)))
          clear hJs hKp hsz
          gi_wp2
          gi_loopw [31] (fun i w3 => ∃ p : Nat, p ≤ o.n ∧ i = .int .i64 p ∧ J (roots ++ (obs.take j).flatMap Ob.fields ++ o.fields.take p) w3 ∧ KpG n₀ Bg W w3) (fun i _ => o.n - (intOf i).toNat)
          case atStart => exact ⟨0, Nat.zero_le _, rfl, by simpa using HJ0.out, HK0.out⟩
          case round =>
            clear HJ0 HK0 e0 hsz2 hsz3 had
            obtain ⟨p, hp, rfl, hJs, hKp⟩ := hrel
            have hsz := hKp.1.size
            by_cases hlp : p < o.n
            · have hpl : p < o.fields.length := by rw [HFL.out]; exact hlp
              obtain ⟨ad2, hA2, had02, had2, hc2, hd2⟩ := (hEach.kp hKp.1).atN hlp
              obtain ⟨v0, v1⟩ := vals_at o.fields p hpl
              have e0 := hc2 _ v0
              have e1 := hd2 0 _ v1
              have HT2 := hide (List.take_succ_eq_append_getElem hpl)
              obtain ⟨x, hx⟩ : ∃ x, o.fields[p] = x := ⟨_, rfl⟩
              rw [hx] at e0 e1 HT2
              rw [hA2]
              have HA2 := hide hA2
              have hpre : roots ++ (obs.take j).flatMap Ob.fields ++ o.fields.take (p + 1) <+: allVals obs roots := by
                unfold allVals
                rw [List.append_assoc]
                refine List.prefix_append_right_inj _ |>.2 ?_
                exact (List.prefix_append_right_inj _ |>.2 (List.take_prefix _ _)).trans HSUB.out
              have HPRE := hide hpre
              have hlen2 : (roots ++ (obs.take j).flatMap Ob.fields ++ o.fields.take p).length < (allVals obs roots).length := by
                have h3 := hpre.length_le
                rw [HT2.out] at h3
                simp only [List.length_append, List.length_singleton] at h3 ⊢
                omega
              clear hc2 hd2 v0 v1 hx hA2 hpre
              obtain ⟨fn, tmps, assign, body, hy, hR'⟩ := hY _ x (wr.alloc (.cells #[.bool x.1, .int .i64 x.2] 107)) (hJ _ _ _ none hJs (World.grownBy_alloc wr _ none) (fun r e => by cases e)) hlen2
              unfold encVal at hy
              clear hlen2
              gi_wp2
              refine hR'.mono ?_
              rintro e W3 (⟨rfl, hJ3, hk3⟩ | ⟨rfl, hJx3⟩)
              · gi_wp2
                go_roundw
                case rel => exact ⟨p + 1, by omega, by go_num, by rw [HT2.out, ← List.append_assoc]; exact hJ3, hKp.trans_ (KpG.trans_ (KpG.alloc (by omega) (by omega) _) hk3)⟩
                case measure => simp [intOf]; omega
              · gi_wp2
                refine bodyPost_ret (results_none rfl _ _ _) rfl ?_
                exact ⟨⟨_, rfl⟩, .inr ⟨_, by have := HPRE.out; rw [HT2.out, ← List.append_assoc] at this; exact this, hJx3⟩⟩
            · obtain rfl : p = o.n := by omega
              rw [show o.fields.take o.n = o.fields from List.take_of_length_le (by rw [HFL.out]; omega)] at hJs
              gi_wp2
              go_roundw
              case rel => exact ⟨j + 1, by omega, by go_num, by rw [HT.out, List.flatMap_append, List.flatMap_cons, List.flatMap_nil, List.append_nil, ← List.append_assoc]; exact hJs, hKp⟩
              case measure => simp [intOf]; omega
        · obtain rfl : j = nO := by omega
          rw [show obs.take j = obs from List.take_of_length_le (by rw [HOL.out]; omega)] at hJs
          gi_wp2
          go_end0
          exact ⟨⟨_, rfl⟩, .inl ⟨_, rfl, hJs⟩⟩
end Go.Proofs.Ytjphckfbbiehdaa
