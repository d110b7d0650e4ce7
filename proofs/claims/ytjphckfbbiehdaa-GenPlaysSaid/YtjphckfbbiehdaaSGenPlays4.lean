/- The reference's check of a graph: bad, all, GraphCheck. graph: a graph that a call hands back. The order in which objects are found: plain. The reference's place, turned, Order. The reference's Order. -/
import Derived.Test.YtjphckfbbiehdaaSGenPlays3
import Derived.Test.YtjphckfbbiehdaaSGenPlays2
set_option linter.unusedSimpArgs false
set_option linter.unusedVariables false
namespace Go.Proofs.Ytjphckfbbiehdaa
open Go.RowKit
def badN (n : Nat) (v : Val) : Int := if badArg n v = true then 2 else if badRange v = true then 3 else 0
set_option maxHeartbeats 1600000 in
theorem bad_any (w : World) (n : Nat) (v : Val) (_hn : n ≤ 1000) :
    Calls Try.prog 66 #[.agg #[.bool v.1, .int .i64 v.2], .int .i64 n] w fun e w' => e = .returned (.int .i64 (badN n v)) ∧ Below w.heap.size w w' := by
  obtain ⟨b, k⟩ := v
  dsimp only
  cases b with
  | true =>
    by_cases h1 : k < 0
    · have k1 : decide (k < 0) = true := by simp [h1]
      rw [show badN n (true, k) = 2 from by unfold badN badArg; simp [h1]]
      clear h1
      go_enter Try.func66, Try.ntmps66
      go_wp2_with fail
      go_ret
      exact ⟨rfl, (by repeat (first | with_reducible exact Below.refl _ _ | with_reducible (refine Below.setCell ?_ (by first | omega | (simp; done) | (simp; omega)) _) | with_reducible (refine Below.alloc ?_ (by first | omega | (simp; done) | (simp; omega)) _) | with_reducible refine Below.drew ?_ | with_reducible refine below_drewN ?_ _))⟩
    · have k1 : decide (k < 0) = false := by simp [h1]
      by_cases h2 : (n : Int) ≤ k
      · have k2 : decide ((n : Int) ≤ k) = true := by simp [h2]
        rw [show badN n (true, k) = 2 from by unfold badN badArg; simp [h2]]
        clear h1 h2
        go_enter Try.func66, Try.ntmps66
        go_wp2_with fail
        go_ret
        exact ⟨rfl, (by repeat (first | with_reducible exact Below.refl _ _ | with_reducible (refine Below.setCell ?_ (by first | omega | (simp; done) | (simp; omega)) _) | with_reducible (refine Below.alloc ?_ (by first | omega | (simp; done) | (simp; omega)) _) | with_reducible refine Below.drew ?_ | with_reducible refine below_drewN ?_ _))⟩
      · have k2 : decide ((n : Int) ≤ k) = false := by simp [h2]
        rw [show badN n (true, k) = 0 from by unfold badN badArg badRange; rw [k1, k2]; rfl]
        clear h1 h2
        go_enter Try.func66, Try.ntmps66
        go_wp2_with fail
        go_ret
        exact ⟨rfl, (by repeat (first | with_reducible exact Below.refl _ _ | with_reducible (refine Below.setCell ?_ (by first | omega | (simp; done) | (simp; omega)) _) | with_reducible (refine Below.alloc ?_ (by first | omega | (simp; done) | (simp; omega)) _) | with_reducible refine Below.drew ?_ | with_reducible refine below_drewN ?_ _))⟩
  | false =>
    by_cases h1 : k < -4611686018427387904
    · have k1 : decide (k < -4611686018427387904) = true := by simp [h1]
      rw [show badN n (false, k) = 3 from by unfold badN badArg badRange; simp [h1]]
      clear h1
      go_enter Try.func66, Try.ntmps66
      go_wp2_with fail
      go_ret
      exact ⟨rfl, (by repeat (first | with_reducible exact Below.refl _ _ | with_reducible (refine Below.setCell ?_ (by first | omega | (simp; done) | (simp; omega)) _) | with_reducible (refine Below.alloc ?_ (by first | omega | (simp; done) | (simp; omega)) _) | with_reducible refine Below.drew ?_ | with_reducible refine below_drewN ?_ _))⟩
    · have k1 : decide (k < -4611686018427387904) = false := by simp only [h1, decide_false]
      by_cases h2 : 4611686018427387903 < k
      · have k2 : decide (4611686018427387903 < k) = true := by simp [h2]
        rw [show badN n (false, k) = 3 from by unfold badN badArg badRange; simp [h2]]
        clear h1 h2
        go_enter Try.func66, Try.ntmps66
        go_wp2_with fail
        go_ret
        exact ⟨rfl, (by repeat (first | with_reducible exact Below.refl _ _ | with_reducible (refine Below.setCell ?_ (by first | omega | (simp; done) | (simp; omega)) _) | with_reducible (refine Below.alloc ?_ (by first | omega | (simp; done) | (simp; omega)) _) | with_reducible refine Below.drew ?_ | with_reducible refine below_drewN ?_ _))⟩
      · have k2 : decide (4611686018427387903 < k) = false := by simp only [h2, decide_false]
        rw [show badN n (false, k) = 0 from by unfold badN badArg badRange; rw [k1, k2]; rfl]
        clear h1 h2
        go_enter Try.func66, Try.ntmps66
        go_wp2_with fail
        go_ret
        exact ⟨rfl, (by repeat (first | with_reducible exact Below.refl _ _ | with_reducible (refine Below.setCell ?_ (by first | omega | (simp; done) | (simp; omega)) _) | with_reducible (refine Below.alloc ?_ (by first | omega | (simp; done) | (simp; omega)) _) | with_reducible refine Below.drew ?_ | with_reducible refine below_drewN ?_ _))⟩
theorem sVal : SliceT Try.prog 25 107 2 16 := SliceT.mk_ Try.underlying25 (z := .agg #[.bool false, .int .i64 0]) (by kernel_rfl) rfl (by omega)
theorem vals_snoc (l : List Val) (x : Val) : vals (l ++ [x]) = vals l ++ [.bool x.1, .int .i64 x.2] := by simp [vals]
theorem flat_len (l : List Ob) (h : ∀ o ∈ l, o.fields.length ≤ 4) : (l.flatMap Ob.fields).length ≤ 4 * l.length := by
  induction l with
  | nil => simp
  | cons a l ih =>
    have h1 := h a (by simp)
    have h2 := ih (fun o ho => h o (by simp [ho]))
    simp only [List.flatMap_cons, List.length_append, List.length_cons]
    omega
theorem vals_row {F : Nat → Prop} {W w : World} {items : List Item} (h : Sep F W w items) (k : Nat) {A : Option Addr} {n c : Nat} {l : List Val} (hk : items[k]? = some (rowI 107 2 A n c (vals l))) : l.length = n := by
  have := (h.rd_ k hk).1; rw [vals_length] at this; omega
set_option maxRecDepth 100000 in
set_option maxHeartbeats 4000000 in
theorem all_any (w : World) (AO AR : Option Addr) (nO cO nR cR : Nat) (obs : List Ob) (roots : List Val) (hO : ObsRd w (fun _ => True) AO nO obs) (hR : Rd w (fun _ => True) 2 AR nR (vals roots)) (h1 : nO ≤ 24) (h2 : nR ≤ 8) (h3 : obs.any large = false) :
    Calls Try.prog 65 #[.agg #[.slice AO nO cO, .slice AR nR cR]] w fun e w' => ∃ A n c, e = .returned (.slice A n c) ∧ n ≤ 104 ∧ Sep No w w' [rowI 107 2 A n c (vals (allVals obs roots))] := by
  have hfl : ∀ o ∈ obs, o.n ≤ 4 := fun o ho => by
    have h5 := List.any_eq_false.1 h3 o ho
    unfold large at h5
    simp at h5
    omega
  have HFL := hide hfl
  have HRL := hide (show roots.length = nR by have := hR.1; rw [vals_length] at this; omega)
  have HOL := hide hO.len
  have HS0 := hide ((((Sep.nil No w).blkAt 27 #[.slice AO nO cO, .slice AR nR cR] rfl).nilRow0 107 2))
  clear hfl h3
  go_enter Try.func65, Try.ntmps65
  go_wp2_with fail
  go_loopw [3, 13] (fun s3 i wr => ∃ (k m : Nat) (A : Option Addr) (c : Nat), k ≤ nR ∧ i = .int .i64 k ∧ s3 = .slice A m c ∧ Sep No w wr (rowI 107 2 A m c (vals (roots.take k)) :: [blkI w.heap.size 27 #[.slice AO nO cO, .slice AR nR cR]])) (fun _ i _ => nR - (intOf i).toNat)
  case atStart => exact ⟨0, 0, none, 0, by omega, rfl, rfl, by simpa [vals] using HS0.out⟩
  case round =>
    clear HS0
    obtain ⟨k, m, A, c, hk, rfl, rfl, hS⟩ := hrel
    have hm := vals_row hS 0 rfl
    have hm8 : m ≤ 8 := by simp at hm; omega
    clear hm
    by_cases hlt : k < nR
    · have hkl : k < roots.length := by rw [HRL.out]; exact hlt
      obtain ⟨ad, hA, _, had, hc, hd⟩ := (hR.below hS.below_).atN hlt
      obtain ⟨v0, v1⟩ := vals_at roots k hkl
      have e0 := hc _ v0
      have e1 := hd 0 _ v1
      have HT := hide (List.take_succ_eq_append_getElem hkl)
      obtain ⟨x, hx⟩ : ∃ x, roots[k] = x := ⟨_, rfl⟩
      rw [hx] at e0 e1 HT
      subst hA
      clear hc hd v0 v1 hx
      go_wp2_with (first
        | (at_builtin
           refine wpList_app1 (cs := #[.bool x.1, .int .i64 x.2]) rfl (.tmp 17) (.tmp 19) 25 rfl sVal (hS.alloc _) 0 (n := m) rfl rfl rfl (by simp) rfl rfl (by omega) ?_
           intro A4 c4 w4 hS4 hC4))
      go_roundw
      case rel => exact ⟨k + 1, m + 1, A4, c4, by omega, by go_num, rfl, by rw [HT.out, vals_snoc]; exact hS4⟩
      case measure => simp [intOf]; omega
    · obtain rfl : k = nR := by omega
      rw [show roots.take k = roots from List.take_of_length_le (by rw [HRL.out]; omega)] at hS
      obtain ⟨g1, g2, g3, g4⟩ := hS.rules 1 (g := w.heap.size) (t := 27) rfl
      go_wp2_with fail
      clear g1 g2 g3 g4 hm8
      have HS1 := hide hS
      clear hS
      go_loopw [3, 25] (fun s3 i w2 => ∃ (j m : Nat) (A : Option Addr) (c : Nat), j ≤ nO ∧ i = .int .i64 j ∧ s3 = .slice A m c ∧ Sep No w w2 (rowI 107 2 A m c (vals (roots ++ (obs.take j).flatMap Ob.fields)) :: [blkI w.heap.size 27 #[.slice AO nO cO, .slice AR k cR]])) (fun _ i _ => nO - (intOf i).toNat)
      case atStart => exact ⟨0, m, A, c, by omega, rfl, rfl, by simpa using HS1.out⟩
      case round =>
        clear HS1
        obtain ⟨j, m, A, c, hj, rfl, rfl, hS⟩ := hrel
        have hm := vals_row hS 0 rfl
        have hfl4 := flat_len (obs.take j) (fun o ho => by
          have h5 := List.mem_of_mem_take ho
          rw [hO.flen h5]
          exact HFL.out o h5)
        have hm2 : m ≤ 8 + 4 * j := by
          rw [List.length_append, HRL.out] at hm
          rw [List.length_take] at hfl4
          omega
        clear hm hfl4
        by_cases hlt : j < nO
        · have hjl : j < obs.length := by rw [HOL.out]; exact hlt
          obtain ⟨ad, hA, _, had, hc⟩ := (hO.below hS.below_).row.at_ hlt
          have e0 := hc obs[j].val (by simp [List.getElem?_eq_getElem hjl])
          have hEach := hO.each _ (List.getElem_mem hjl)
          have hFl := hO.flen (List.getElem_mem hjl)
          have hF1 := HFL.out _ (List.getElem_mem hjl)
          have HT := hide (List.take_succ_eq_append_getElem hjl)
          obtain ⟨o, ho⟩ : ∃ o, obs[j] = o := ⟨_, rfl⟩
          rw [ho] at e0 HT hEach hFl hF1
          unfold Ob.val at e0
          subst hA
          have HFL2 := hide hFl
          have HS2 := hide (hS.alloc (.cells #[.slice o.A o.n o.c] 119))
          clear hc ho hFl hS
          go_wp2_with fail
          clear e0 had
          go_loopw [3, 32] (fun s3 i w3 => ∃ (p m : Nat) (A : Option Addr) (c : Nat), p ≤ o.n ∧ i = .int .i64 p ∧ s3 = .slice A m c ∧ m ≤ 8 + 4 * j + p ∧ Sep No w w3 (rowI 107 2 A m c (vals (roots ++ (obs.take j).flatMap Ob.fields ++ o.fields.take p)) :: [blkI w.heap.size 27 #[.slice (some ad) nO cO, .slice AR k cR]])) (fun _ i _ => o.n - (intOf i).toNat)
          case atStart => exact ⟨0, m, A, c, by omega, rfl, rfl, by omega, by simpa using HS2.out⟩
          case round =>
            clear HS2 hm2
            obtain ⟨p, m, A, c, hp, rfl, rfl, hm2, hS⟩ := hrel
            by_cases hlp : p < o.n
            · have hpl : p < o.fields.length := by rw [HFL2.out]; exact hlp
              obtain ⟨ad2, hA2, _, had2, hc2, hd2⟩ := (hEach.below hS.below_).atN hlp
              obtain ⟨v0, v1⟩ := vals_at o.fields p hpl
              have e0 := hc2 _ v0
              have e1 := hd2 0 _ v1
              have HT2 := hide (List.take_succ_eq_append_getElem hpl)
              obtain ⟨x, hx⟩ : ∃ x, o.fields[p] = x := ⟨_, rfl⟩
              rw [hx] at e0 e1 HT2
              rw [hA2]
              have HA2 := hide hA2
              clear hc2 hd2 v0 v1 hx hA2
              go_wp2_with (first
                | (at_builtin
                   refine wpList_app1 (cs := #[.bool x.1, .int .i64 x.2]) rfl (.tmp 36) (.tmp 38) 25 rfl sVal (hS.alloc _) 0 (n := m) rfl rfl rfl (by simp) rfl rfl (by omega) ?_
                   intro A4 c4 w4 hS4 hC4))
              go_roundw
              case rel => exact ⟨p + 1, m + 1, A4, c4, by omega, by go_num, rfl, by omega, by rw [HT2.out, ← List.append_assoc, vals_snoc]; exact hS4⟩
              case measure => simp [intOf]; omega
            · obtain rfl : p = o.n := by omega
              rw [show o.fields.take o.n = o.fields from List.take_of_length_le (by rw [HFL2.out]; omega)] at hS
              go_wp2_with fail
              go_roundw
              case rel => exact ⟨j + 1, m, A, c, by omega, by go_num, rfl, by rw [HT.out, List.flatMap_append, List.flatMap_cons, List.flatMap_nil, List.append_nil, ← List.append_assoc]; exact hS⟩
              case measure => simp [intOf]; omega
        · obtain rfl : j = nO := by omega
          rw [show obs.take j = obs from List.take_of_length_le (by rw [HOL.out]; omega)] at hS
          go_wp2_with fail
          go_ret
          exact ⟨A, m, c, rfl, by omega, hS.sub (by simp [allVals])⟩
theorem any_snoc_ {α : Type} (p : α → Bool) (l : List α) (x : α) : (l ++ [x]).any p = (l.any p || p x) := by simp
def wres (l : List Val) : Int := if bad2 l = true then 3 else 0
set_option maxRecDepth 100000 in
set_option maxHeartbeats 4000000 in
theorem refCheck_any (w : World) (AO AR : Option Addr) (nO cO nR cR : Nat) (obs : List Ob) (roots : List Val) (hO : ObsRd w (fun _ => True) AO nO obs) (hR : Rd w (fun _ => True) 2 AR nR (vals roots)) :
    Calls Try.prog 24 #[.agg #[.slice AO nO cO, .slice AR nR cR]] w fun e w' => e = .returned (.int .i64 (gcheck nO nR obs roots)) ∧ Below w.heap.size w w' := by
  by_cases h1 : 24 < nO
  · rw [show gcheck nO nR obs roots = 1 from if_pos (Or.inl h1)]
    clear hO hR
    go_enter Try.func24, Try.ntmps24
    go_wp2_with fail
    go_ret
    exact ⟨rfl, (by repeat (first | with_reducible exact Below.refl _ _ | with_reducible (refine Below.setCell ?_ (by first | omega | (simp; done) | (simp; omega)) _) | with_reducible (refine Below.alloc ?_ (by first | omega | (simp; done) | (simp; omega)) _) | with_reducible refine Below.drew ?_ | with_reducible refine below_drewN ?_ _))⟩
  by_cases h2 : 8 < nR
  · rw [show gcheck nO nR obs roots = 1 from if_pos (Or.inr (Or.inl h2))]
    clear hO hR
    go_enter Try.func24, Try.ntmps24
    go_wp2_with fail
    go_ret
    exact ⟨rfl, (by repeat (first | with_reducible exact Below.refl _ _ | with_reducible (refine Below.setCell ?_ (by first | omega | (simp; done) | (simp; omega)) _) | with_reducible (refine Below.alloc ?_ (by first | omega | (simp; done) | (simp; omega)) _) | with_reducible refine Below.drew ?_ | with_reducible refine below_drewN ?_ _))⟩
  have HOL := hide hO.len
  have hB0 : Below w.heap.size w (w.alloc (.cells #[.slice AO nO cO, .slice AR nR cR] 27)) := (Below.refl _ w).alloc (Nat.le_refl _) _
  have bG0 := Blk.new w 27 #[.slice AO nO cO, .slice AR nR cR]
  have HB0 := hide hB0
  have BG0 := hide bG0
  clear hB0 bG0
  go_enter Try.func24, Try.ntmps24
  go_wp2_with fail
  go_loopw [22] (fun i wr => ∃ k : Nat, k ≤ nO ∧ i = .int .i64 k ∧ Hid ((obs.take k).any large = false) ∧ Blk wr w.heap.size 27 #[.slice AO nO cO, .slice AR nR cR] ∧ Below w.heap.size w wr) (fun i _ => nO - (intOf i).toNat)
  case atStart => exact ⟨0, by omega, rfl, rfl, BG0.out, HB0.out⟩
  case round =>
    clear HB0 BG0
    obtain ⟨k, hk, rfl, HP, bG, hB⟩ := hrel
    by_cases hlt : k < nO
    · have hkl : k < obs.length := by rw [HOL.out]; exact hlt
      obtain ⟨ad, hA, _, had, hc⟩ := (hO.below hB).row.at_ hlt
      have e0 := hc obs[k].val (by simp [List.getElem?_eq_getElem hkl])
      have HT := hide (List.take_succ_eq_append_getElem hkl)
      have HM := hide (List.getElem_mem hkl)
      obtain ⟨o, ho⟩ : ∃ o, obs[k] = o := ⟨_, rfl⟩
      rw [ho] at e0 HT HM
      unfold Ob.val at e0
      subst hA
      have hz := hB.size
      clear hc ho
      by_cases hl : 4 < o.n
      · have HG := hide (show gcheck nO nR obs roots = 1 from if_pos (Or.inr (Or.inr (List.any_eq_true.2 ⟨o, HM.out, by unfold large; simp [hl]⟩))))
        go_wp2_with fail
        go_ret
        exact ⟨by rw [HG.out] <;> rfl, hB.alloc hz _⟩
      · have HG : Hid ((obs.take (k + 1)).any large = false) := by
          show _ = _
          rw [HT.out, any_snoc_, HP.out]
          unfold large; simp [hl]
        go_wp2_with fail
        go_roundw
        case rel => exact ⟨k + 1, by omega, by go_num, HG, bG.alloc _, hB.alloc hz _⟩
        case measure => simp [intOf]; omega
    · obtain rfl : k = nO := by omega
      have hall : obs.any large = false := by
        have := HP.out
        rw [List.take_of_length_le (by rw [HOL.out]; omega)] at this
        exact this
      have HG := hide (show gcheck k nR obs roots = gres k (allVals obs roots) from if_neg (by rw [hall]; simp; omega))
      have HA := hide hall
      obtain ⟨g1, g2, g3⟩ := bG.rules
      clear hall HP
      go_wp2_with fail
      refine (all_any wr AO AR k cO nR cR obs roots (hO.below hB) (hR.below hB) (by omega) (by omega) HA.out).mono ?_
      rintro e w1 ⟨A, n, c, rfl, hn, hS⟩
      have hz := hB.size
      have hB1 := hB.trans (hS.below_.mono hz)
      have bG1 := bG.below_ hS.below_
      have hV : Rd w1 (fun _ => True) 2 A n (vals (allVals obs roots)) := hS.rd_ 0 rfl
      have HVL := hide (show (allVals obs roots).length = n by have := hV.1; rw [vals_length] at this; omega)
      have HB1 := hide hB1
      have BG1 := hide bG1
      clear g1 g2 g3 bG hB hS hz hB1 bG1
      go_wp2_with fail
      go_loopw [5, 34] (fun s5 i w2 => ∃ j : Nat, j ≤ n ∧ i = .int .i64 j ∧ s5 = .int .i64 (wres ((allVals obs roots).take j)) ∧ Hid (bad1 k ((allVals obs roots).take j) = false) ∧ Blk w2 w.heap.size 27 #[.slice AO k cO, .slice AR nR cR] ∧ Below w1.heap.size w1 w2 ∧ Below w.heap.size w w2) (fun _ i _ => n - (intOf i).toNat)
      case atStart => exact ⟨0, by omega, rfl, by simp [wres, bad2], by simp [Hid, bad1], BG1.out, Below.refl _ _, HB1.out⟩
      case round =>
        clear HB1 BG1
        obtain ⟨j, hj, rfl, rfl, HP, bG, hB1, hB⟩ := hrel
        by_cases hlj : j < n
        · have hjl : j < (allVals obs roots).length := by rw [HVL.out]; exact hlj
          obtain ⟨ad2, hA2, _, had2, hc2, hd2⟩ := (hV.below hB1).atN hlj
          obtain ⟨v0, v1⟩ := vals_at (allVals obs roots) j hjl
          have e0 := hc2 _ v0
          have e1 := hd2 0 _ v1
          have HT := hide (List.take_succ_eq_append_getElem hjl)
          have HM := hide (List.getElem_mem hjl)
          obtain ⟨x, hx⟩ : ∃ x, (allVals obs roots)[j] = x := ⟨_, rfl⟩
          rw [hx] at e0 e1 HT HM
          subst hA2
          obtain ⟨g1, g2, g3⟩ := bG.rules
          have hz := hB.size
          have hz1 := hB1.size
          clear hc2 hd2 v0 v1 hx
          obtain ⟨pre, hpre⟩ : ∃ pre, (allVals obs roots).take j = pre := ⟨_, rfl⟩
          rw [hpre] at HT HP
          rw [hpre]
          clear hpre
          have C := hide (fun w' => bad_any w' k x (by omega))
          go_wp2_with fail
          refine (C.out _).mono ?_
          rintro e w3 ⟨rfl, hB3⟩
          clear g1 g2 g3 C
          have hz3 := hB3.size
          simp at hz3
          have hB4 := (hB.alloc hz (.cells #[.bool x.1, .int .i64 x.2] 107)).trans (hB3.mono (by simp; omega))
          have hB5 := (hB1.alloc hz1 (.cells #[.bool x.1, .int .i64 x.2] 107)).trans (hB3.mono (by simp; omega))
          have bG4 := (bG.alloc (.cells #[.bool x.1, .int .i64 x.2] 107)).below_ hB3
          cases ha : badArg k x with
          | true =>
            rw [show badN k x = 2 from if_pos ha]
            have HR := hide (show gres k (allVals obs roots) = 2 from if_pos (List.any_eq_true.2 ⟨x, HM.out, ha⟩))
            clear ha
            cases hb : bad2 pre with
            | true =>
              rw [show wres pre = 3 from if_pos hb]
              clear hb
              go_wp2_with fail
              go_ret
              exact ⟨by rw [HG.out, HR.out] <;> rfl, hB4⟩
            | false =>
              rw [show wres pre = 0 from if_neg (by rw [hb]; simp)]
              clear hb
              go_wp2_with fail
              go_ret
              exact ⟨by rw [HG.out, HR.out] <;> rfl, hB4⟩
          | false =>
            have HP2 : Hid (bad1 k ((allVals obs roots).take (j + 1)) = false) := by
              show _ = _
              rw [HT.out, bad1_snoc _ _ _ HP.out]; exact ha
            cases hc : badRange x with
            | true =>
              rw [show badN k x = 3 from (if_neg (by rw [ha]; simp)).trans (if_pos hc)]
              have HW := hide (show wres ((allVals obs roots).take (j + 1)) = 3 from if_pos (by rw [HT.out]; unfold bad2; rw [any_snoc_, hc]; simp))
              clear ha hc
              cases hb : bad2 pre with
              | true =>
                rw [show wres pre = 3 from if_pos hb]
                clear hb
                go_wp2_with fail
                go_roundw
                case rel => exact ⟨j + 1, by omega, by go_num, by rw [HW.out], HP2, bG4, hB5, hB4⟩
                case measure => simp [intOf]; omega
              | false =>
                rw [show wres pre = 0 from if_neg (by rw [hb]; simp)]
                clear hb
                go_wp2_with fail
                go_roundw
                case rel => exact ⟨j + 1, by omega, by go_num, by rw [HW.out], HP2, bG4, hB5, hB4⟩
                case measure => simp [intOf]; omega
            | false =>
              rw [show badN k x = 0 from (if_neg (by rw [ha]; simp)).trans (if_neg (by rw [hc]; simp))]
              have HW := hide (show bad2 ((allVals obs roots).take (j + 1)) = bad2 pre from by rw [HT.out]; unfold bad2; rw [any_snoc_, hc]; simp)
              clear ha hc
              cases hb : bad2 pre with
              | true =>
                rw [show wres pre = 3 from if_pos hb]
                have HW2 := hide (show wres ((allVals obs roots).take (j + 1)) = 3 from if_pos (by rw [HW.out]; exact hb))
                clear hb
                go_wp2_with fail
                go_roundw
                case rel => exact ⟨j + 1, by omega, by go_num, by rw [HW2.out], HP2, bG4, hB5, hB4⟩
                case measure => simp [intOf]; omega
              | false =>
                rw [show wres pre = 0 from if_neg (by rw [hb]; simp)]
                have HW2 := hide (show wres ((allVals obs roots).take (j + 1)) = 0 from if_neg (by rw [HW.out, hb]; simp))
                clear hb
                go_wp2_with fail
                go_roundw
                case rel => exact ⟨j + 1, by omega, by go_num, by rw [HW2.out], HP2, bG4, hB5, hB4⟩
                case measure => simp [intOf]; omega
        · obtain rfl : j = n := by omega
          rw [show (allVals obs roots).take j = allVals obs roots from List.take_of_length_le (by rw [HVL.out]; omega)] at HP ⊢
          have HR := hide (show gres k (allVals obs roots) = wres (allVals obs roots) from if_neg (by rw [HP.out]; simp))
          go_wp2_with fail
          go_ret
          exact ⟨by rw [HG.out, HR.out] <;> rfl, hB⟩
end Go.Proofs.Ytjphckfbbiehdaa

namespace Go.Proofs.Ytjphckfbbiehdaa
open Go.RowKit
structure GraphRd (w : World) (D : Nat → Prop) (v : Value) (fss : List (List Val)) (roots : List Val) : Prop where
  ex : ∃ AO nO cO AR nR cR obs, v = .agg #[.slice AO nO cO, .slice AR nR cR] ∧ ObsRd w D AO nO obs ∧ obs.map Ob.fields = fss ∧ Rd w D 2 AR nR (vals roots)
theorem GraphRd.below {w w' : World} {D : Nat → Prop} {v : Value} {fss : List (List Val)} {roots : List Val} (h : GraphRd w D v fss roots) (hb : Below w.heap.size w w') : GraphRd w' D v fss roots := by
  obtain ⟨AO, nO, cO, AR, nR, cR, obs, h1, h2, h3, h4⟩ := h.ex
  exact ⟨AO, nO, cO, AR, nR, cR, obs, h1, h2.below hb, h3, h4.below hb⟩
theorem GraphRd.more {w : World} {D D' : Nat → Prop} {v : Value} {fss : List (List Val)} {roots : List Val} (h : GraphRd w D v fss roots) (hD : ∀ k, k < w.heap.size → D k → D' k) : GraphRd w D' v fss roots := by
  obtain ⟨AO, nO, cO, AR, nR, cR, obs, h1, h2, h3, h4⟩ := h.ex
  exact ⟨AO, nO, cO, AR, nR, cR, obs, h1, h2.more hD, h3, h4.more hD⟩
theorem GraphRd.nil (w : World) (D : Nat → Prop) : GraphRd w D (.agg #[.slice none 0 0, .slice none 0 0]) [] [] := ⟨none, 0, 0, none, 0, 0, [], rfl, ⟨Rd.nil, by simp⟩, rfl, Rd.nil⟩
theorem sObj : SliceT Try.prog 24 119 1 24 := SliceT.mk_ Try.underlying24 (z := .agg #[.slice none 0 0]) (by kernel_rfl) rfl (by omega)
/-- An object's fields as an item. -/
def obI (o : Ob) : Item := rowI 107 2 o.A o.n o.c (vals o.fields)
end Go.Proofs.Ytjphckfbbiehdaa

namespace Go.Proofs.Ytjphckfbbiehdaa
theorem nodup_sum {α : Type} [DecidableEq α] (f : α → Nat) (l m : List α) (hn : l.Nodup) (hs : ∀ x ∈ l, x ∈ m) : (l.map f).sum ≤ (m.map f).sum := by
  induction l generalizing m with
  | nil => simp
  | cons a l ih =>
    obtain ⟨h1, h2⟩ := List.nodup_cons.1 hn
    have hp := ((List.perm_cons_erase (hs a (by simp))).map f).sum_nat
    have h3 := ih (m.erase a) h2 (fun x hx => (List.mem_erase_of_ne (by rintro rfl; exact h1 hx)).2 (hs x (by simp [hx])))
    simp only [List.map_cons, List.sum_cons] at hp ⊢
    omega
theorem nodup_len (l : List Int) (n : Nat) (hn : l.Nodup) (hs : ∀ x ∈ l, 0 ≤ x ∧ x < (n : Int)) : l.length ≤ n := by
  have h := nodup_sum (fun _ => 1) l ((List.range n).map Int.ofNat) hn (fun x hx => by
    obtain ⟨a, b⟩ := hs x hx
    exact List.mem_map.2 ⟨x.toNat, List.mem_range.2 (by omega), by show ((x.toNat : Nat) : Int) = x; omega⟩)
  have e : ∀ m : List Int, (m.map (fun _ => 1)).sum = m.length := fun m => by
    induction m with
    | nil => rfl
    | cons a m ih => simp only [List.map_cons, List.sum_cons, List.length_cons, ih]; omega
  rw [e, e] at h
  simpa using h
def seen1 (l : List Int) (v : Val) : List Int := if v.1 = true ∧ v.2 ∉ l then l ++ [v.2] else l
def seenAll (l : List Int) (vs : List Val) : List Int := vs.foldl seen1 l
def fieldsI (gs : List (List Val)) (x : Int) : List Val := gs.getD x.toNat []
def bfs (gs : List (List Val)) : Nat → Nat → List Int → List Int
  | 0, _, l => l
  | f + 1, k, l => if k < l.length then bfs gs f (k + 1) (seenAll l (fieldsI gs (l.getD k 0))) else l
def order (gs : List (List Val)) (vs : List Val) : List Int := bfs gs gs.length 0 (seenAll [] vs)
def ValsOk (n : Nat) (vs : List Val) : Prop := ∀ v ∈ vs, v.1 = true → 0 ≤ v.2 ∧ v.2 < (n : Int)
structure OrdOk (n : Nat) (l : List Int) : Prop where
  nodup : l.Nodup
  rng : ∀ x ∈ l, 0 ≤ x ∧ x < (n : Int)
theorem OrdOk.len {n : Nat} {l : List Int} (h : OrdOk n l) : l.length ≤ n := nodup_len l n h.nodup h.rng
theorem OrdOk.nil (n : Nat) : OrdOk n [] := ⟨List.nodup_nil, by simp⟩
theorem OrdOk.seen1 {n : Nat} {l : List Int} (h : OrdOk n l) {v : Val} (hv : v.1 = true → 0 ≤ v.2 ∧ v.2 < (n : Int)) : OrdOk n (seen1 l v) := by
  unfold Go.Proofs.Ytjphckfbbiehdaa.seen1
  split
  · rename_i hc
    refine ⟨List.nodup_append.2 ⟨h.nodup, by simp, fun a ha b hb => by simp at hb; subst hb; rintro rfl; exact hc.2 ha⟩, fun x hx => ?_⟩
    rcases List.mem_append.1 hx with h1 | h1
    · exact h.rng x h1
    · simp at h1; subst h1; exact hv hc.1
  · exact h
theorem OrdOk.seenAll {n : Nat} {l : List Int} (h : OrdOk n l) {vs : List Val} (hv : ValsOk n vs) : OrdOk n (seenAll l vs) := by
  unfold Go.Proofs.Ytjphckfbbiehdaa.seenAll
  induction vs generalizing l with
  | nil => exact h
  | cons a vs ih => exact ih (h.seen1 (hv a (by simp))) (fun v hv' => hv v (by simp [hv']))
theorem fieldsI_ok {gs : List (List Val)} {n : Nat} (hg : ∀ fs ∈ gs, ValsOk n fs) (x : Int) : ValsOk n (fieldsI gs x) := by
  unfold fieldsI
  rw [List.getD_eq_getElem?_getD]
  cases h : gs[x.toNat]? with
  | none => intro v hv; simp at hv
  | some fs => exact hg fs (List.mem_of_getElem? h)
theorem OrdOk.bfs {gs : List (List Val)} {n : Nat} (hg : ∀ fs ∈ gs, ValsOk n fs) (f : Nat) {k : Nat} {l : List Int} (h : OrdOk n l) : OrdOk n (bfs gs f k l) := by
  induction f generalizing k l with
  | zero => exact h
  | succ f ih =>
    unfold Go.Proofs.Ytjphckfbbiehdaa.bfs
    split
    · exact ih (h.seenAll (fieldsI_ok hg _))
    · exact h
theorem seen1_pre (l : List Int) (v : Val) : l <+: seen1 l v := by
  unfold seen1
  split
  · exact List.prefix_append _ _
  · exact List.prefix_refl _
theorem seenAll_pre (l : List Int) (vs : List Val) : l <+: seenAll l vs := by
  unfold seenAll
  induction vs generalizing l with
  | nil => exact List.prefix_refl _
  | cons a vs ih => exact (seen1_pre l a).trans (ih _)
end Go.Proofs.Ytjphckfbbiehdaa

namespace Go.Proofs.Ytjphckfbbiehdaa
open Go.RowKit
theorem ValsOk.take {n : Nat} {vs : List Val} (h : ValsOk n vs) (k : Nat) : ValsOk n (vs.take k) := fun v hv => h v (List.mem_of_mem_take hv)
end Go.Proofs.Ytjphckfbbiehdaa

namespace Go.Proofs.Ytjphckfbbiehdaa
open Go.RowKit
theorem ints_snoc_ (l : List Int) (x : Int) : ints (l ++ [x]) = ints l ++ [.int .i64 x] := by simp [ints]
theorem seenAll_cons (l : List Int) (v : Val) (vs : List Val) : seenAll l (v :: vs) = seenAll (seen1 l v) vs := rfl
theorem int_nat {x : Int} (h : 0 ≤ x) : ∃ j : Nat, x = (j : Int) := ⟨x.toNat, by omega⟩
end Go.Proofs.Ytjphckfbbiehdaa
