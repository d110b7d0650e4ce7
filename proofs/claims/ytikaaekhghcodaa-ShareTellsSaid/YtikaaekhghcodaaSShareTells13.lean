/- Share's reference: do both have a reference; a list with one more. -/
import Derived.Test.YtikaaekhghcodaaSShareTells12
import Derived.Test.YtikaaekhghcodaaSShareTells9
set_option linter.unusedSimpArgs false
set_option linter.unusedVariables false
namespace Go.Proofs.Ytikaaekhghcodaa
open Go.RowKit
set_option maxRecDepth 100000 in
set_option maxHeartbeats 1600000 in
theorem ronward_any (w : World) (AO AR : Option Addr) (nO cO nR cR : Nat) (obs : List Ob) (hO : ObsRd w (fun _ => True) AO nO obs) (hfl : ∀ o ∈ obs, o.n ≤ 4) (a b : Nat) (h1 : a < nO) (h2 : b < nO) (hn : nO ≤ 24) (k : Nat) :
    Calls Try.prog 19 #[.agg #[.slice AO nO cO, .slice AR nR cR], .int .i64 (a : Int), .int .i64 (b : Int), .int .i64 (k : Int)] w fun e w' => e = .returned (.bool (onwO (obs.map Ob.fields) (a, b) k).isSome) ∧ Below w.heap.size w w' := by
  have hS0 := (Sep.nil No w).blkAt 25 #[.slice AO nO cO, .slice AR nR cR] rfl
  have hO0 := hO.below hS0.below_
  obtain ⟨ad, o1, _, hA, _, had, hc1, hr1, hg1, hn1, hl1⟩ := ob_at hO0 hfl h1
  obtain ⟨ad', o2, _, hA', _, _, hc2, hr2, hg2, hn2, hl2⟩ := ob_at hO0 hfl h2
  obtain rfl : ad = ad' := by rw [hA] at hA'; injection hA'
  have HD := hide (show onwO (obs.map Ob.fields) (a, b) k = onw2 o1.fields[k]? o2.fields[k]? from by rw [onwO_eq]; unfold fldO; dsimp only; rw [hg1, hg2])
  rw [HD.out]
  have HB := hide hS0.below_
  obtain ⟨A1, n1, cc1, fs1⟩ := o1
  obtain ⟨A2, n2, cc2, fs2⟩ := o2
  dsimp only at hc1 hc2 hr1 hr2 hn1 hn2 hl1 hl2
  dsimp only
  subst hA
  have t1 : decide ((a : Int) < (nO : Int)) = true := by simp; omega
  have t2 : decide ((b : Int) < (nO : Int)) = true := by simp; omega
  by_cases hk1 : k < n1
  · by_cases hk2 : k < n2
    · obtain ⟨af, hAf, _, _, e1, d1⟩ := hr1.atN hk1
      obtain ⟨ag, hAg, _, _, e2, d2⟩ := hr2.atN hk2
      obtain ⟨x0, x1⟩ := vals_at fs1 k (by omega)
      obtain ⟨y0, y1⟩ := vals_at fs2 k (by omega)
      have e3 := e1 _ x0
      have e5 := e2 _ y0
      have hx : fs1[k]? = some (fs1[k]'(by omega)) := List.getElem?_eq_getElem _
      have hy : fs2[k]? = some (fs2[k]'(by omega)) := List.getElem?_eq_getElem _
      obtain ⟨x, hx2⟩ : ∃ x, fs1[k]'(by omega) = x := ⟨_, rfl⟩
      obtain ⟨y, hy2⟩ : ∃ y, fs2[k]'(by omega) = y := ⟨_, rfl⟩
      rw [hx2] at e3 hx
      rw [hy2] at e5 hy
      rw [hx, hy]
      obtain ⟨bx, nx⟩ := x
      obtain ⟨by_, ny⟩ := y
      dsimp only at e3 e5
      subst hAf hAg
      have k5 : decide ((k : Int) < (n1 : Int)) = true := by simp; omega
      have k6 : decide ((k : Int) < (n2 : Int)) = true := by simp; omega
      have HR := hide (show (onw2 (some (bx, nx)) (some (by_, ny))).isSome = (bx && by_) from by cases bx <;> cases by_ <;> rfl)
      rw [HR.out]
      clear hO hO0 hS0 hfl hr1 hr2 hg1 hg2 hl1 hl2 hA' HD e1 e2 d1 d2 x0 x1 y0 y1 hx hy hx2 hy2 had HR
      cases bx <;> cases by_
      all_goals
        go_enter Try.func19, Try.ntmps19
        go_wp2_with fail
        go_ret
        exact ⟨rfl, HB.out⟩
    · have hy : fs2[k]? = none := List.getElem?_eq_none (by omega)
      rw [hy, show ∀ v, onw2 v none = none from fun v => by cases v <;> rfl]
      dsimp only [Option.isSome]
      have k5 : decide ((k : Int) < (n1 : Int)) = true := by simp; omega
      have k6 : decide (k < n1) = true := by simp; omega
      have k7 : decide ((k : Int) < (n2 : Int)) = false := by simp; omega
      have k8 : decide (k < n2) = false := by simp; omega
      clear hO hO0 hS0 hfl hr1 hr2 hg1 hg2 hl1 hl2 hA' HD hy had
      go_enter Try.func19, Try.ntmps19
      go_wp2_with fail
      go_ret
      exact ⟨rfl, HB.out⟩
  · have hx : fs1[k]? = none := List.getElem?_eq_none (by omega)
    rw [hx, show ∀ v, onw2 none v = none from fun v => rfl]
    dsimp only [Option.isSome]
    have k5 : decide ((k : Int) < (n1 : Int)) = false := by simp; omega
    have k6 : decide (k < n1) = false := by simp; omega
    clear hO hO0 hS0 hfl hr1 hr2 hg1 hg2 hl1 hl2 hA' HD hx had
    go_enter Try.func19, Try.ntmps19
    go_wp2_with fail
    go_ret
    exact ⟨rfl, HB.out⟩
set_option maxRecDepth 100000 in
set_option maxHeartbeats 800000 in
theorem rmore_any (w : World) (D : Nat → Prop) (A : Option Addr) (n c : Nat) (u : List Nat) (hn : n ≤ 1000) (h : Rd w D 1 A n (nts u)) (k : Nat) :
    Calls Try.prog 18 #[.slice A n c, .int .i64 (k : Int)] w fun e w' => ∃ A2 c2, e = .returned (.slice A2 (n + 1) c2) ∧ Sep No w w' [rowI 3 1 A2 (n + 1) c2 (nts (u ++ [k]))] := by
  have hl : u.length = n := by have := h.1; simpa [nts] using this
  have HL := hide hl
  have HS0 := hide ((Sep.nil No w).nilRow 3 1)
  clear hl
  go_enter Try.func18, Try.ntmps18
  go_wp2_with fail
  go_loopw [5, 10] (fun s i wr => ∃ (j : Nat) (A2 : Option Addr) (c2 : Nat), j ≤ n ∧ i = .int .i64 j ∧ s = .slice A2 j c2 ∧ Sep No w wr [rowI 3 1 A2 j c2 (nts (u.take j))]) (fun _ i _ => n - (intOf i).toNat)
  case atStart => exact ⟨0, none, 0, by omega, rfl, rfl, HS0.out⟩
  case round =>
    obtain ⟨j, A2, c2, hj, rfl, rfl, hS⟩ := hrel
    by_cases hlt : j < n
    · have hjl : j < u.length := by rw [HL.out]; exact hlt
      obtain ⟨ad, hA, _, had, hc⟩ := (h.below hS.below_).at_ hlt
      have e0 := hc (.int .i64 (u[j] : Int)) (by simp [nts, ints, List.getElem?_eq_getElem hjl])
      have HT := hide (List.take_succ_eq_append_getElem hjl)
      obtain ⟨x, hx⟩ : ∃ x, u[j] = x := ⟨_, rfl⟩
      rw [hx] at e0 HT
      subst hA
      clear hc hx
      go_wp2_with (at_builtin
                   refine wpList_app1 (cs := #[.int .i64 (x : Int)]) rfl (.tmp 14) (.tmp 16) 26 rfl sInt hS 0 (n := j) rfl rfl rfl (by simp) rfl rfl (by omega) ?_
                   intro A6 c6 w6 hS6 hC6)
      go_roundw
      case rel => exact ⟨j + 1, A6, c6, by omega, by go_num, rfl, by rw [HT.out, nts_snoc]; exact hS6⟩
      case measure => simp [intOf]; omega
    · obtain rfl : j = n := by omega
      have HT := hide (show u.take j = u from List.take_of_length_le (by rw [HL.out]; omega))
      rw [HT.out] at hS
      go_wp2_with (at_builtin
                   refine wpList_app1 (cs := #[.int .i64 (k : Int)]) rfl (.tmp 19) (.tmp 21) 26 rfl sInt hS 0 (n := j) rfl rfl rfl (by simp) rfl rfl (by omega) ?_
                   intro A6 c6 w6 hS6 hC6)
      go_ret
      exact ⟨A6, c6, rfl, by rw [nts_snoc]; exact hS6⟩
end Go.Proofs.Ytikaaekhghcodaa
