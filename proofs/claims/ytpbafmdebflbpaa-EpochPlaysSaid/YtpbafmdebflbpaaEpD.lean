/- epoch: slices.DeleteFunc of what is old. -/
import Derived.Test.YtpbafmdebflbpaaEpC
import Derived.Test.YtpbafmdebflbpaaSepCut
namespace Go.Proofs.Ytpbafmdebflbpaa
open Go.RowKit

def ekept (ep : Int) (ws : List (Int × Int)) : List (Int × Int) := ws.filter fun x => !eold ep x

theorem fates_set : ∀ (l : List (Int × Int)) (k : Nat) (x : Int × Int), k < l.length → ((fates l).set (k * 2) (.int .i64 x.1)).set (k * 2 + 1) (.int .i64 x.2) = fates (l.set k x)
  | [], _, _, h => by simp at h
  | a :: l, 0, x, _ => by simp [fates]
  | a :: l, k + 1, x, h => by
    have ih := fates_set l k x (by simpa using h)
    unfold fates at ih ⊢
    rw [show (k + 1) * 2 = k * 2 + 2 from by omega]
    simp only [List.flatMap_cons, List.set_cons_succ, List.cons_append, List.nil_append]
    rw [← ih]

set_option maxHeartbeats 1600000 in
theorem delete_old (w : World) (s : Ez) (b b2 : Nat) (by_ : Int) (A : Option Addr) (n c : Nat) (ws : List (Int × Int)) (hs : (allI (s.dr b b2 by_ A n c ws)).P w) (he : 0 ≤ s.ep) (he2 : s.ep ≤ 1000) (hf : s.freed.length + n ≤ 10000) (hn : n ≤ 100) :
    Calls Try.prog 105 #[.slice A n c, .func (.func 106) #[] #[.pointer (some ⟨b, 0, none⟩), .pointer (some ⟨b2, 0, none⟩)]] w fun e w' =>
      ∃ (A' : Option Addr) (m c' : Nat) (Af : Option Addr) (nf cf : Nat), e = .returned (.slice A' m c') ∧
        Sep (allI (s.dr b b2 by_ A n c ws)).fp w w' (Ez.dr { s with Af := Af, nf := nf, cf := cf, freed := s.freed ++ egone s.ep by_ ws } b b2 by_ A' m c' (ekept s.ep ws)) := by
  have hS0 := (Sep.start hs).flat
  have hl : ws.length = n := by have := (hS0.rd_ 0 rfl).1; rw [fates_length] at this; omega
  have hrow : w.ownsRow 0 134 2 (.slice A n c) n (fates ws) := hS0.get 0 rfl
  have hnc : n ≤ c := by
    obtain ⟨A', c', h1, h2⟩ := ownsRow_slice hrow
    injection h1 with _ _ h3
    omega
  have HL := hide hl
  have HR := hide hrow
  clear hl hrow
  go_enter Try.func105, Try.ntmps105
  go_wp2_with fail
  refine (index_old w s b b2 by_ A n c ws hs he he2 (by omega) hn).mono ?_
  rintro e w1 ⟨k, Af, nf, cf, hnot, h⟩
  rcases h with ⟨rfl, rfl, hS⟩ | ⟨x, hx, hxo, rfl, hS⟩
  · have h1 : ∀ x ∈ ws, eold s.ep x = false := by rw [List.take_of_length_le (by rw [HL.out]; omega)] at hnot; exact hnot
    have e1 : egone s.ep by_ ws = [] := by
      unfold egone
      rw [List.filter_eq_nil_iff.2 (fun a ha => by rw [h1 a ha]; simp)]; rfl
    have e2 : ekept s.ep ws = ws := List.filter_eq_self.2 (fun a ha => by rw [h1 a ha]; rfl)
    have E1 := hide e1
    have E2 := hide e2
    clear e1 e2 h1 hnot
    go_wp2_with fail
    go_ret
    refine ⟨A, k, c, Af, nf, cf, rfl, ?_⟩
    rw [E1.out, E2.out, List.append_nil]
    exact hS
  · have hkl : k < ws.length := (List.getElem?_eq_some_iff.1 hx).1
    have hkn : k < n := by rw [← HL.out]; exact hkl
    obtain ⟨g, cap, hA, _, hg⟩ := HR.out.form (by omega)
    injection hA with hA _ hcap
    subst hA hcap
    have e0 : ekept s.ep (ws.take k) = ws.take k := List.filter_eq_self.2 (fun a ha => by rw [hnot a ha]; rfl)
    have e1 : egone s.ep by_ (ws.take (k + 1)) = [(x.1, by_)] := by
      unfold egone
      rw [List.take_add_one, hx, List.filter_append, List.filter_eq_nil_iff.2 (fun a ha => by rw [hnot a ha]; simp)]
      simp [hxo]
    have e2 : ekept s.ep (ws.take (k + 1)) = ws.take k := by
      unfold ekept at e0 ⊢
      rw [List.take_add_one, hx, List.filter_append, e0]
      simp [hxo]
    have hst : Sep (allI (s.dr b b2 by_ (some ⟨g, 0, none⟩) n c ws)).fp w w1 (Ez.dr { s with Af := Af, nf := nf, cf := cf, freed := s.freed ++ egone s.ep by_ (ws.take (k + 1)) } b b2 by_ (some ⟨g, 0, none⟩) n c (ekept s.ep (ws.take (k + 1)) ++ ws.drop k)) := by
      rw [e1, e2, List.take_append_drop]; exact hS
    have hq0 : Hid (k = (ekept s.ep (ws.take (k + 1))).length) := by rw [e2, List.length_take]; show k = _; omega
    have hk1 : ((k : Int) == -1) = false := by rw [beq_eq_false_iff_ne]; omega
    clear e0 e1 e2 hS hx hxo hnot
    go_wp2_with fail
    go_loopw [5, 6, 7] (fun q j _ wr => ∃ (q' k' : Nat) (Af : Option Addr) (nf cf : Nat), q = .int .i64 q' ∧ j = .int .i64 k' ∧ q' < k' ∧ k' ≤ n ∧ Hid (q' = (ekept s.ep (ws.take k')).length) ∧
        Sep (allI (s.dr b b2 by_ (some ⟨g, 0, none⟩) n c ws)).fp w wr (Ez.dr { s with Af := Af, nf := nf, cf := cf, freed := s.freed ++ egone s.ep by_ (ws.take k') } b b2 by_ (some ⟨g, 0, none⟩) n c (ekept s.ep (ws.take k') ++ ws.drop q'))) (fun _ j _ _ => n - (intOf j).toNat)
    case atStart => exact ⟨k, k + 1, Af, nf, cf, rfl, by go_num, by omega, by omega, hq0, hst⟩
    case round =>
      obtain ⟨q, k', Af', nf', cf', rfl, rfl, hqk, hkn', hq, hS⟩ := hrel
      have hrow := hS.get 0 rfl
      by_cases hlt : k' < n
      · have hkl' : k' < ws.length := by rw [HL.out]; exact hlt
        have hcells := hS.rd_ 0 (A := some ⟨g, 0, none⟩) (n := n) (c := c) (xs := fates (ekept s.ep (ws.take k') ++ ws.drop q)) (e := 134) (size := 2) rfl
        obtain ⟨ad, hA, _, hadl, hc0, hc1⟩ := hcells.atN hlt
        obtain rfl : ad = ⟨g, 0, none⟩ := by injection hA with hA; exact hA.symm
        have hlen : (ekept s.ep (ws.take k') ++ ws.drop q).length = n := by
          rw [List.length_append, ← hq.out, List.length_drop, HL.out]; omega
        have hget : (ekept s.ep (ws.take k') ++ ws.drop q)[k']'(by omega) = ws[k'] := by
          rw [List.getElem_append_right (by rw [← hq.out]; omega)]
          simp only [List.getElem_drop, ← hq.out]
          congr 1; omega
        have hcell0 := hc0 _ (fates_0 _ k' (by omega))
        have hcell1 := hc1 0 _ (fates_1 _ k' (by omega))
        rw [hget, addr0] at hcell0 hcell1
        have hcell1 : wr.cell? ⟨g, k' * 2 + 1, none⟩ = some (.int .i64 ws[k'].2) := hcell1
        have HW := hide (List.take_succ_eq_append_getElem hkl')
        clear hc0 hc1 hcells hA hrow hget
        go_wp2_with fail
        have hSa := hS.alloc (.cells #[.int .i64 ws[k'].1, .int .i64 ws[k'].2] 134)
        refine (estep2_any _ { s with Af := Af', nf := nf', cf := cf', freed := s.freed ++ egone s.ep by_ (ws.take k') } b b2 by_ ws[k'].1 ws[k'].2 (hSa.get 1 rfl) he he2 (by
          have h1 : (egone s.ep by_ (ws.take k')).length ≤ k' := by
            unfold egone; rw [List.length_map]; exact Nat.le_trans (List.length_filter_le _ _) (by rw [List.length_take]; omega)
          simp only [List.length_append]; omega)).mono ?_
        rintro e w2 ⟨rfl, Af1, nf1, cf1, hS1⟩
        have hS2 := hSa.call 1 rfl hS1
        have hg1 : egone s.ep by_ (ws.take (k' + 1)) = egone s.ep by_ (ws.take k') ++ egone s.ep by_ [(ws[k'].1, ws[k'].2)] := by
          rw [HW.out]; unfold egone; rw [List.filter_append, List.map_append]
        cases hq2 : eold s.ep ws[k'] with
        | true =>
          have hq3 : eold s.ep (ws[k'].1, ws[k'].2) = true := hq2
          have hk2 : ekept s.ep (ws.take (k' + 1)) = ekept s.ep (ws.take k') := by
            rw [HW.out]; unfold ekept; rw [List.filter_append]; simp [hq2]
          have hS3 : Sep (allI (s.dr b b2 by_ (some ⟨g, 0, none⟩) n c ws)).fp w w2 (Ez.dr { s with Af := Af1, nf := nf1, cf := cf1, freed := s.freed ++ egone s.ep by_ (ws.take (k' + 1)) } b b2 by_ (some ⟨g, 0, none⟩) n c (ekept s.ep (ws.take (k' + 1)) ++ ws.drop q)) := by
            rw [hk2, hg1, ← List.append_assoc]; exact hS2
          have hq4 : Hid (q = (ekept s.ep (ws.take (k' + 1))).length) := by rw [hk2]; exact hq
          clear hS hSa hS1 hS2 hcell0 hcell1 hg1 hk2 hq2 hlen
          go_wp2_with fail
          go_roundw
          case rel => exact ⟨q, k' + 1, Af1, nf1, cf1, rfl, by go_num, by omega, by omega, hq4, hS3⟩
          case measure => simp [intOf]; omega
        | false =>
          have hq3 : eold s.ep (ws[k'].1, ws[k'].2) = false := hq2
          have hk2 : ekept s.ep (ws.take (k' + 1)) = ekept s.ep (ws.take k') ++ [ws[k']] := by
            rw [HW.out]; unfold ekept; rw [List.filter_append]; simp [hq2]
          have hg2 : egone s.ep by_ (ws.take (k' + 1)) = egone s.ep by_ (ws.take k') := by
            rw [hg1]; unfold egone; simp [hq3]
          have hrow2 : w2.ownsRow 0 134 2 (.slice (some ⟨g, 0, none⟩) n c) n (fates (ekept s.ep (ws.take k') ++ ws.drop q)) := hS2.get 0 rfl
          obtain ⟨u0, hz0⟩ : ∃ u, w2.cell? ⟨g, q * 2, none⟩ = some u := ⟨_, (hrow2.cellAt (q * 2) (by omega)).trans (fates_0 _ q (by omega))⟩
          obtain ⟨u1, hz1⟩ : ∃ u, w2.cell? ⟨g, q * 2 + 1, none⟩ = some u := ⟨_, (hrow2.cellAt (q * 2 + 1) (by omega)).trans (fates_1 _ q (by omega))⟩
          have hfz := hrow2.frozenAt
          have hgl := hS2.hi 0 rfl g rfl
          have hB := ((Blk.new wr 134 #[.int .i64 ws[k'].1, .int .i64 ws[k'].2]).chg hS1.bel (fun h => absurd (hS.hi 1 rfl _ h) (by omega))).rules
          obtain ⟨hB1, hB2, hB3⟩ := hB
          have hB4 : w2.cell? ⟨wr.heap.size, 0, none⟩ = some (.int .i64 ws[k'].1) := by rw [hB1]; rfl
          have hB5 : w2.cell? ⟨wr.heap.size, 1, none⟩ = some (.int .i64 ws[k'].2) := by rw [hB1]; rfl
          have hd : ws.drop q = ws[q]'(by omega) :: ws.drop (q + 1) := List.drop_eq_getElem_cons (by omega)
          have hset : (ekept s.ep (ws.take k') ++ ws.drop q).set q ws[k'] = ekept s.ep (ws.take (k' + 1)) ++ ws.drop (q + 1) := by
            rw [hk2, List.set_append_right _ _ (by rw [← hq.out]; omega), ← hq.out, Nat.sub_self, hd, List.set_cons_zero, List.append_assoc]
            rfl
          have hS3 : Sep (allI (s.dr b b2 by_ (some ⟨g, 0, none⟩) n c ws)).fp w ((w2.setCell ⟨g, q * 2, none⟩ (.int .i64 ws[k'].1)).setCell ⟨g, q * 2 + 1, none⟩ (.int .i64 ws[k'].2)) (Ez.dr { s with Af := Af1, nf := nf1, cf := cf1, freed := s.freed ++ egone s.ep by_ (ws.take (k' + 1)) } b b2 by_ (some ⟨g, 0, none⟩) n c (ekept s.ep (ws.take (k' + 1)) ++ ws.drop (q + 1))) := by
            have h5 := hS2.store2 0 (g := g) rfl (q * 2) (.int .i64 ws[k'].1) (.int .i64 ws[k'].2)
            rw [fates_set _ q ws[k'] (by omega), hset] at h5
            simp only [hq3, egone, List.filter_cons, List.filter_nil, Bool.false_eq_true, if_false, List.map_nil, List.append_nil] at h5
            rw [hg2]
            exact h5
          have hq4 : Hid (q + 1 = (ekept s.ep (ws.take (k' + 1))).length) := by rw [hk2, List.length_append, ← hq.out]; rfl
          clear hS hSa hS1 hS2 hcell0 hcell1 hg1 hg2 hk2 hq2 hlen hset hrow2 hB1 hB2 hd
          go_wp2_with fail
          go_roundw
          case rel => exact ⟨q + 1, k' + 1, Af1, nf1, cf1, by go_num, by go_num, by omega, by omega, hq4, hS3⟩
          case measure => simp [intOf]; omega
      · obtain rfl : k' = n := by omega
        have hrow : wr.ownsRow 0 134 2 (.slice (some ⟨g, 0, none⟩) k' c) k' (fates (ekept s.ep (ws.take k') ++ ws.drop q)) := hS.get 0 rfl
        have hwl : ws.take k' = ws := List.take_of_length_le (by rw [HL.out]; omega)
        have hlen : (ekept s.ep (ws.take k') ++ ws.drop q).length = k' := by
          rw [List.length_append, ← hq.out, List.length_drop, HL.out]; omega
        have hcl : ∀ ty, (Builtin.clear_ #[128] ty #[.slice (some ⟨g, q * 2, none⟩) (k' - q) (c - q)]).run Try.prog wr = .ok (.tuple #[]) (wr.setCells g (q * 2) (Builtin.zeroCells #[.int .i64 0, .int .i64 0] (k' - q)).toList) :=
          fun ty => run_clear_all wr _ _ ty (.agg #[.int .i64 0, .int .i64 0]) Try.underlying128 (fun w => Try.zeroValue134 w) g (q * 2) (k' - q) (c - q) (by omega)
            (fun j hj => by
              have hj' : j < (k' - q) * 2 := hj
              rw [hrow.cellAt _ (by omega), List.getElem?_eq_getElem (by rw [fates_length, hlen]; omega)]; rfl)
            (fun j _ => hrow.frozenAt _) (fun v hv => by
              have hv' : v ∈ (Builtin.zeroCells #[Value.int .i64 0, .int .i64 0] (k' - q)).toList := hv
              simp only [Builtin.zeroCells, Array.toList_map, List.mem_map] at hv'
              obtain ⟨i, _, rfl⟩ := hv'
              have : i % 2 = 0 ∨ i % 2 = 1 := by omega
              rcases this with h | h <;> simp [h, Value.oneCell'])
        have hS3 := hS.clearCut 0 (g := g) (q := q) rfl (by omega) (Builtin.zeroCells #[.int .i64 0, .int .i64 0] (k' - q)).toList
        generalize (Builtin.zeroCells #[.int .i64 0, .int .i64 0] (k' - q)).toList = zs at hcl hS3
        clear hrow hS hlen
        go_wp2_with fail
        go_ret
        refine ⟨_, q, c, Af', nf', cf', rfl, ?_⟩
        have e1 : (fates (ekept s.ep (ws.take k') ++ ws.drop q)).take (q * 2) = fates (ekept s.ep (ws.take k')) := by
          unfold fates
          rw [List.flatMap_append, List.take_append_of_le_length (by have := fates_length (ekept s.ep (ws.take k')); unfold fates at this; rw [this, ← hq.out]; omega), List.take_of_length_le (by have := fates_length (ekept s.ep (ws.take k')); unfold fates at this; rw [this, ← hq.out]; omega)]
        rw [e1, hwl] at hS3
        exact hS3
end Go.Proofs.Ytpbafmdebflbpaa
