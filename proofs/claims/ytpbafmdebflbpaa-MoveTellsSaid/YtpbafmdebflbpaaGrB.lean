/- graph: values(g), an iterator: its contract. -/
import Derived.RangeFuncNested
import Derived.RangeFuncBox
import Derived.RangeFuncBound
import Derived.RangeFuncCalls
import Derived.RangeFuncLeaves
import Derived.Shelf.Abstract
import Derived.Shelf.RegionOpen
import Derived.OwnWalkIn
import Derived.TacticsInMore
import Derived.LoopNIn
import Derived.LoopIn
import Derived.Test.YtpbafmdebflbpaaGrA
namespace Go.Proofs.Ytpbafmdebflbpaa
open Go.RowKit Go.Shelf
attribute [local go_sem] Oper.semAt_some

/-- All that stand in a graph. -/
def allVals (obs : List Ob) (roots : List Val) : List Val := roots ++ obs.flatMap Ob.fields
def encVal (v : Val) : Array Value := #[.agg #[.bool v.1, .int .i64 v.2]]
/-- What a round keeps: whatever lay below n₀, and the graph's own block. -/
def KpG (n₀ Bg : Nat) (W W' : World) : Prop := Below n₀ W W' ∧ W'.heap[Bg]? = W.heap[Bg]?
theorem KpG.trans_ {n₀ Bg : Nat} {A B C : World} (h : KpG n₀ Bg A B) (k : KpG n₀ Bg B C) : KpG n₀ Bg A C := ⟨h.1.trans k.1, k.2.trans h.2⟩

theorem KpG.alloc {n₀ Bg : Nat} {A : World} (h1 : n₀ ≤ A.heap.size) (h2 : Bg < A.heap.size) (o : Obj) : KpG n₀ Bg A (A.alloc o) := ⟨(Below.refl _ _).alloc h1 _, Below.heap_alloc A o Bg h2⟩

theorem ObsRd.kp {n₀ : Nat} {w w' : World} {A : Option Addr} {n : Nat} {obs : List Ob} (h : ObsRd w (fun g => g < n₀) A n obs) (hb : Below n₀ w w') : ObsRd w' (fun g => g < n₀) A n obs := h.keep hb.size fun k _ hd => hb.block k hd
theorem Rd.kp {n₀ : Nat} {w w' : World} {size n : Nat} {A : Option Addr} {xs : List Value} (h : Rd w (fun g => g < n₀) size A n xs) (hb : Below n₀ w w') : Rd w' (fun g => g < n₀) size A n xs := h.keep hb.size fun k _ hd => hb.block k hd

set_option maxRecDepth 100000 in
set_option maxHeartbeats 8000000 in
theorem values1_in (F : Fence) (n : Nat) (h7 : F.fn 121) (hro : F.round = none) (hn : 1 ≤ n) (l Bg n₀ : Nat) (AO AR : Option Addr) (nO cO nR cR : Nat) (obs : List Ob) (roots : List Val) (hnO : nO ≤ 1000) (hnR : nR ≤ 1000) (hF : ∀ o ∈ obs, o.n ≤ 1000) (J Jx : List Val → World → Prop)
    (hY : ∀ pre x W, J pre W → pre.length < (allVals obs roots).length → YieldAt F (n - 1) Try.prog l (encVal x) W fun e W' =>
      (e = .returned (.bool true) ∧ J (pre ++ [x]) W' ∧ KpG n₀ Bg W W') ∨ (e = .returned (.bool false) ∧ Jx (pre ++ [x]) W'))
    (W : World) (hJ : AbidesFrom W.heap.size J) (hn₀ : n₀ ≤ W.heap.size) (hB : W.heap[Bg]? = some (.cells #[.slice AO nO cO, .slice AR nR cR] 52 (0, 0))) (hO : ObsRd W (fun g => g < n₀) AO nO obs) (hR : Rd W (fun g => g < n₀) 2 AR nR (vals roots)) (h0 : J [] W) :
    CallsIn F n Try.prog 121 #[.func (.yield l) #[] #[], .pointer (some ⟨Bg, 0, none⟩)] W fun e W' => (∃ v, e = .returned v) ∧
      ((∃ ys, ys = allVals obs roots ∧ J ys W') ∨ (∃ pre, pre <+: allVals obs roots ∧ Jx pre W')) := by
  refine callsIn_of_wp Try.func121 rfl h7 ?_ hro
  simp only [Try.ntmps121, List.size_toArray, List.length_cons, List.length_nil, Nat.reduceAdd, Nat.reduceSub, Array.replicate_succ, Array.replicate_zero, List.push_toArray, List.append_toArray, List.nil_append, List.cons_append]
  have g0 : W.cell? ⟨Bg, 0, none⟩ = some (.slice AO nO cO) := by simp [World.cell?, hB]
  have g1 : W.cell? ⟨Bg, 1, none⟩ = some (.slice AR nR cR) := by simp [World.cell?, hB]
  have HB := hide hB
  have hBg := (Array.getElem?_eq_some_iff.1 hB).1
  clear hB
  gi_wp2
  gi_loopw [12] (fun i wr => ∃ k : Nat, k ≤ nR ∧ i = .int .i64 k ∧ J (roots.take k) wr ∧ KpG n₀ Bg W wr) (fun i _ => nR - (intOf i).toNat)
  case atStart => exact ⟨0, Nat.zero_le _, rfl, by simpa using h0, Below.refl _ _, rfl⟩
  case round =>
    obtain ⟨k, hk, rfl, hJs, hKp⟩ := hrel
    have hRl : roots.length = nR := by have := hR.1; rw [vals_length] at this; omega
    have HRL := hide hRl
    have hsz := hKp.1.size
    clear hRl
    by_cases hlt : k < nR
    · have hkl : k < roots.length := by rw [HRL.out]; exact hlt
      obtain ⟨ad, hA, had0, had, hc, hd⟩ := (hR.kp hKp.1).atN hlt
      obtain ⟨v0, v1⟩ := vals_at roots k hkl
      have e0 := hc _ v0
      have e1 := hd 0 _ v1
      have HT := hide (List.take_succ_eq_append_getElem hkl)
      obtain ⟨x, hx⟩ : ∃ x, roots[k] = x := ⟨_, rfl⟩
      rw [hx] at e0 e1 HT
      subst hA
      clear hc hd v0 v1 hx
      obtain ⟨fn, tmps, assign, body, hy, hR'⟩ := hY (roots.take k) x (wr.alloc (.cells #[.bool x.1, .int .i64 x.2] 32)) (hJ _ _ _ none hJs (World.grownBy_alloc wr _ none) (fun r e => by cases e)) (by simp [allVals]; omega)
      unfold encVal at hy
      gi_wp2
      refine hR'.mono ?_
      rintro e W3 (⟨rfl, hJ3, hk3⟩ | ⟨rfl, hJx3⟩)
      · gi_wp2
        go_roundw
        case rel => exact ⟨k + 1, by omega, by go_num, by rw [HT.out]; exact hJ3, hKp.trans_ (KpG.trans_ (KpG.alloc (by omega) (by omega) _) hk3)⟩
        case measure => simp [intOf]; omega
      · gi_wp2
        refine bodyPost_ret (results_none rfl _ _ _) rfl ?_
        exact ⟨⟨_, rfl⟩, .inr ⟨_, by rw [← HT.out]; exact (List.take_prefix _ _).trans (List.prefix_append _ _), hJx3⟩⟩
    · obtain rfl : k = nR := by omega
      rw [show roots.take k = roots from List.take_of_length_le (by rw [HRL.out]; omega)] at hJs
      have g2 : wr.cell? ⟨Bg, 0, none⟩ = some (.slice AO nO cO) := by simp [World.cell?, hKp.2.trans HB.out]
      gi_wp2
      clear g2
      have HJs := hide hJs
      have HKp := hide hKp
      clear hJs hKp hsz
      gi_loopw [24] (fun i w2 => ∃ j : Nat, j ≤ nO ∧ i = .int .i64 j ∧ J (roots ++ (obs.take j).flatMap Ob.fields) w2 ∧ KpG n₀ Bg W w2) (fun i _ => nO - (intOf i).toNat)
      case atStart => exact ⟨0, Nat.zero_le _, rfl, by simpa using HJs.out, HKp.out⟩
      case round =>
        clear HJs HKp
        obtain ⟨j, hj, rfl, hJs, hKp⟩ := hrel
        have HOL := hide hO.len
        have hsz := hKp.1.size
        by_cases hlt : j < nO
        · have hjl : j < obs.length := by rw [HOL.out]; exact hlt
          obtain ⟨ad, hA, had0, had, hc⟩ := (hO.kp hKp.1).row.at_ hlt
          have e0 := hc obs[j].val (by simp [List.getElem?_eq_getElem hjl])
          have hEach := hO.each _ (List.getElem_mem hjl)
          have hFl := hO.flen (List.getElem_mem hjl)
          have hF1 := hF _ (List.getElem_mem hjl)
          have HT := hide (List.take_succ_eq_append_getElem hjl)
          obtain ⟨o, ho⟩ : ∃ o, obs[j] = o := ⟨_, rfl⟩
          rw [ho] at e0 HT hEach hFl hF1
          unfold Ob.val at e0
          subst hA
          have HFL := hide hFl
          have hsub : (obs.take j).flatMap Ob.fields ++ o.fields <+: obs.flatMap Ob.fields := by
            have h2 := (List.take_prefix (j + 1) obs)
            obtain ⟨r, hr⟩ := h2
            rw [HT.out] at hr
            have h5 := congrArg (fun l => l.flatMap Ob.fields) hr
            simp only [List.flatMap_append, List.flatMap_cons, List.flatMap_nil, List.append_nil] at h5
            exact ⟨_, h5⟩
          have HSUB := hide hsub
          clear hc ho hFl hsub
          have hsz2 : n₀ ≤ wr.heap.size := by omega
          have hsz3 : Bg < wr.heap.size := by omega
          have HJ0 := hide (hJ _ _ _ none hJs (World.grownBy_alloc wr (.cells #[.slice o.A o.n o.c] 110) none) (fun r e => by cases e))
          have HK0 := hide (hKp.trans_ (KpG.alloc (n₀ := n₀) hsz2 hsz3 (.cells #[.slice o.A o.n o.c] 110)))
          clear hJs hKp hsz
          gi_wp2
          gi_loopw [31] (fun i w3 => ∃ p : Nat, p ≤ o.n ∧ i = .int .i64 p ∧ J (roots ++ (obs.take j).flatMap Ob.fields ++ o.fields.take p) w3 ∧ KpG n₀ Bg W w3) (fun i _ => o.n - (intOf i).toNat)
          case atStart => exact ⟨0, Nat.zero_le _, rfl, by simpa using HJ0.out, HK0.out⟩
          case round =>
            clear HJ0 HK0 e0 hsz2 hsz3 had
            obtain ⟨p, hp, rfl, hJs, hKp⟩ := hrel
            have hsz := hKp.1.size
            by_cases hlp : p < o.n
            · have hpl : p < o.fields.length := by rw [HFL.out]; exact hlp
              obtain ⟨ad2, hA2, had02, had2, hc2, hd2⟩ := (hEach.kp hKp.1).atN hlp
              obtain ⟨v0, v1⟩ := vals_at o.fields p hpl
              have e0 := hc2 _ v0
              have e1 := hd2 0 _ v1
              have HT2 := hide (List.take_succ_eq_append_getElem hpl)
              obtain ⟨x, hx⟩ : ∃ x, o.fields[p] = x := ⟨_, rfl⟩
              rw [hx] at e0 e1 HT2
              rw [hA2]
              have HA2 := hide hA2
              have hpre : roots ++ (obs.take j).flatMap Ob.fields ++ o.fields.take (p + 1) <+: allVals obs roots := by
                unfold allVals
                rw [List.append_assoc]
                refine List.prefix_append_right_inj _ |>.2 ?_
                exact (List.prefix_append_right_inj _ |>.2 (List.take_prefix _ _)).trans HSUB.out
              have HPRE := hide hpre
              have hlen2 : (roots ++ (obs.take j).flatMap Ob.fields ++ o.fields.take p).length < (allVals obs roots).length := by
                have h3 := hpre.length_le
                rw [HT2.out] at h3
                simp only [List.length_append, List.length_singleton] at h3 ⊢
                omega
              clear hc2 hd2 v0 v1 hx hA2 hpre
              obtain ⟨fn, tmps, assign, body, hy, hR'⟩ := hY _ x (wr.alloc (.cells #[.bool x.1, .int .i64 x.2] 32)) (hJ _ _ _ none hJs (World.grownBy_alloc wr _ none) (fun r e => by cases e)) hlen2
              unfold encVal at hy
              clear hlen2
              gi_wp2
              refine hR'.mono ?_
              rintro e W3 (⟨rfl, hJ3, hk3⟩ | ⟨rfl, hJx3⟩)
              · gi_wp2
                go_roundw
                case rel => exact ⟨p + 1, by omega, by go_num, by rw [HT2.out, ← List.append_assoc]; exact hJ3, hKp.trans_ (KpG.trans_ (KpG.alloc (by omega) (by omega) _) hk3)⟩
                case measure => simp [intOf]; omega
              · gi_wp2
                refine bodyPost_ret (results_none rfl _ _ _) rfl ?_
                exact ⟨⟨_, rfl⟩, .inr ⟨_, by have := HPRE.out; rw [HT2.out, ← List.append_assoc] at this; exact this, hJx3⟩⟩
            · obtain rfl : p = o.n := by omega
              rw [show o.fields.take o.n = o.fields from List.take_of_length_le (by rw [HFL.out]; omega)] at hJs
              gi_wp2
              go_roundw
              case rel => exact ⟨j + 1, by omega, by go_num, by rw [HT.out, List.flatMap_append, List.flatMap_cons, List.flatMap_nil, List.append_nil, ← List.append_assoc]; exact hJs, hKp⟩
              case measure => simp [intOf]; omega
        · obtain rfl : j = nO := by omega
          rw [show obs.take j = obs from List.take_of_length_le (by rw [HOL.out]; omega)] at hJs
          gi_wp2
          go_end0
          exact ⟨⟨_, rfl⟩, .inl ⟨_, rfl, hJs⟩⟩
end Go.Proofs.Ytpbafmdebflbpaa
