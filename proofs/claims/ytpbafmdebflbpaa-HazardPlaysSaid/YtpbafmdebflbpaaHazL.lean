/- The law HazardPlays: the walk. -/
import Derived.Test.YtpbafmdebflbpaaHazQ
namespace Go.Proofs.Ytpbafmdebflbpaa
open Go.RowKit

set_option maxHeartbeats 400000 in
theorem threadsCheck_any (w : World) (threads : Int) (A : Option Addr) (n c : Nat) :
    Calls Try.prog 23 #[.int .i64 threads, .slice A n c] w fun e w' => e = .returned (.int .i64 (if threads < 1 ∨ 4 < threads then 3 else if 100 < n then 1 else 0)) ∧ w = w' := by
  by_cases h1 : threads < 1
  · rw [if_pos (by omega)]
    go_enter Try.func23, Try.ntmps23
    go_wp2_with fail
    go_ret
    exact ⟨rfl, rfl⟩
  by_cases h2 : 4 < threads
  · rw [if_pos (by omega)]
    go_enter Try.func23, Try.ntmps23
    go_wp2_with fail
    go_ret
    exact ⟨rfl, rfl⟩
  rw [if_neg (by omega)]
  by_cases h3 : 100 < n
  · rw [if_pos h3]
    go_enter Try.func23, Try.ntmps23
    go_wp2_with fail
    go_ret
    exact ⟨rfl, rfl⟩
  · rw [if_neg h3]
    go_enter Try.func23, Try.ntmps23
    go_wp2_with fail
    go_ret
    exact ⟨rfl, rfl⟩

theorem FreeingRd.below {w0 w w' : World} {v : Value} {a : List Int} {b : List (Int × Int)} {c : List Int} (h : FreeingRd w0 w v a b c) (hb : Below w.heap.size w w') : FreeingRd w0 w' v a b c := by
  obtain ⟨A1, n1, c1, A2, n2, c2, A3, n3, c3, rfl, h1, h2, h3⟩ := h
  exact ⟨_, _, _, _, _, _, _, _, _, rfl, h1.below hb, h2.below hb, h3.below hb⟩

theorem freeings_any (w w1 w2 : World) (v v' : Value) (a : List Int) (b : List (Int × Int)) (c : List Int) (ha : a.length ≤ 1000) (hb : b.length ≤ 1000) (hc : c.length ≤ 1000) (h : FreeingRd w1 w v a b c) (h' : FreeingRd w2 w v' a b c) :
    Calls Try.prog 24 #[v, v'] w fun e w' => e = .returned (.bool true) ∧ Below w.heap.size w w' := by
  obtain ⟨A1, n1, c1, A2, n2, c2, A3, n3, c3, rfl, h1, h2, h3⟩ := h
  obtain ⟨A1', n1', c1', A2', n2', c2', A3', n3', c3', rfl, h1', h2', h3'⟩ := h'
  have l1 : a.length = n1 := by simpa using h1.1
  have l2 : b.length = n2 := by have := h2.1; rw [fates_length] at this; omega
  have l3 : c.length = n3 := by simpa using h3.1
  have e1 : a.length = n1' := by simpa using h1'.1
  have e2 : b.length = n2' := by have := h2'.1; rw [fates_length] at this; omega
  have e3 : c.length = n3' := by simpa using h3'.1
  subst l1 l2 l3 e1 e2 e3
  exact freeings_same w _ _ _ _ _ _ _ _ _ _ _ _ _ _ _ _ _ _ _ _ _ a c b (by omega) (by omega) (by omega) h1 h2 h3 h1' h2' h3'

set_option maxRecDepth 100000 in
set_option maxHeartbeats 800000 in
theorem hazardPlays_walk (w : World) (threads : Int) (A : Option Addr) (n c : Nat) (l : List Deed) (hn : n ≤ 9223372036854775807) (hl : Rd w (fun _ => True) 3 A n (deeds l)) :
    Calls Try.prog 5 #[.int .i64 threads, .slice A n c] w fun e w' => e = .returned (.bool true) ∧ Below w.heap.size w w' := by
  by_cases hbad : threads < 1 ∨ 4 < threads ∨ 100 < n
  · have hx : ∃ x : Int, (if threads < 1 ∨ 4 < threads then (3 : Int) else 1) = x ∧ (if threads < 1 ∨ 4 < threads then (3 : Int) else if 100 < n then 1 else 0) = x ∧ x ≠ 0 := by
      by_cases h1 : threads < 1 ∨ 4 < threads
      · exact ⟨3, by rw [if_pos h1], by rw [if_pos h1], by omega⟩
      · exact ⟨1, by rw [if_neg h1], by rw [if_neg h1, if_pos (by omega)], by omega⟩
    obtain ⟨x, hx1, hx2, hx3⟩ := hx
    have c1 := hzplay_bad w threads A n c hbad hn
    have c2 := fun w' => threadsCheck_any w' threads A n c
    rw [hx1] at c1
    rw [hx2] at c2
    have C1 := hide c1
    have C2 := hide c2
    have y1 : (x != 0) = true := by rw [bne_iff_ne]; exact hx3
    have y2 : (x == 0) = false := by simp [hx3]
    clear c1 c2 hx1 hx2 hx3 hbad hl
    go_enter Try.func5, Try.ntmps5
    go_wp2_with fail
    refine C1.out.mono ?_
    rintro e w1 ⟨rfl, hb1⟩
    go_wp2_with fail
    refine (C2.out _).mono ?_
    rintro e w2 ⟨rfl, rfl⟩
    go_wp2_with fail
    refine (freeings_any _ w1 w1 _ _ [] [] [] (by simp) (by simp) (by simp) ⟨none, 0, 0, none, 0, 0, none, 0, 0, rfl, Rd.nil, Rd.nil, Rd.nil⟩ ⟨none, 0, 0, none, 0, 0, none, 0, 0, rfl, Rd.nil, Rd.nil, Rd.nil⟩).mono ?_
    rintro e w3 ⟨rfl, hb3⟩
    have hz1 := hb1.size
    have hz3 := hb3.size
    simp at hz3
    go_wp2_with fail
    go_ret
    exact ⟨rfl, (by repeat (first | with_reducible exact Below.refl _ _ | with_reducible (refine Below.setCell ?_ (by first | omega | (simp; done) | (simp; omega)) _) | with_reducible (refine Below.alloc ?_ (by first | omega | (simp; done) | (simp; omega)) _) | with_reducible refine Below.drew ?_ | with_reducible refine below_drewN ?_ _ | with_reducible (refine Below.trans ?_ (Below.mono hb3 (by first | omega | (simp; done) | (simp; omega)))) | with_reducible (refine Below.trans ?_ (Below.mono hb1 (by first | omega | (simp; done) | (simp; omega))))))⟩
  · obtain ⟨N, rfl⟩ := Int.eq_ofNat_of_zero_le (show 0 ≤ threads by omega)
    have hN1 : 1 ≤ N := by omega
    have hN2 : N ≤ 4 := by omega
    have hn1 : n ≤ 100 := by omega
    have c2 := fun w' => threadsCheck_any w' N A n c
    rw [if_neg (by omega), if_neg (by omega)] at c2
    have C2 := hide c2
    obtain ⟨s1, s2⟩ := Sim.at N l n
    have o1 := HM.at_ok N l n
    have o2 := RM.at_ok N l n
    have s3 := s2.waits
    rw [o2.1] at s3
    have C1 := hide (hzplay_ok w N A n c l hN1 hN2 hn1 hl)
    have C3 := hide (fun w' (hb : Below w.heap.size w w') => hzref_ok w' N A n c l hN1 hN2 hn1 (hl.below hb))
    rw [s1, s2.freed, s3] at C1
    have lw : ((List.range N).flatMap fun t => ((RM.at (RM.start N) l n).2.waits.filter fun x => x.2 == Int.ofNat t).map Prod.fst).length ≤ 1000 := by
      rw [← s3, List.length_flatMap]
      have h5 : ((HM.at (HM.start N) l n).2.ths.map fun a => a.2.length).sum ≤ n := by have := o1.2.2.1; unfold HM.size wsum at this; omega
      exact Nat.le_trans h5 (by omega)
    have lf : (RM.at (RM.start N) l n).2.freed.length ≤ 1000 := by omega
    have lc : (RM.at (RM.start N) l n).1.length ≤ 1000 := by rw [← s1, o1.2.2.2]; omega
    generalize (RM.at (RM.start N) l n).1 = cs at *
    generalize (RM.at (RM.start N) l n).2.freed = fs at *
    generalize ((List.range N).flatMap fun t => ((RM.at (RM.start N) l n).2.waits.filter fun x => x.2 == Int.ofNat t).map Prod.fst) = ws at *
    clear s1 s2 s3 o1 o2 c2 hbad
    go_enter Try.func5, Try.ntmps5
    go_wp2_with fail
    refine C1.out.mono ?_
    rintro e w1 ⟨v, rfl, hb1, hf1⟩
    obtain ⟨A1, n1, c1, A2, n2, c2, A3, n3, c3, rfl, f1, f2, f3⟩ := hf1
    go_wp2_with fail
    refine (C2.out _).mono ?_
    rintro e w2 ⟨rfl, rfl⟩
    go_wp2_with fail
    have hz1 := hb1.size
    go_region_law (first
      | (go_simp
         go_at_call 25
         refine (C3.out _ (by repeat (first | with_reducible exact Below.refl _ _ | with_reducible (refine Below.setCell ?_ (by first | omega | (simp; done) | (simp; omega)) _) | with_reducible (refine Below.alloc ?_ (by first | omega | (simp; done) | (simp; omega)) _) | with_reducible refine Below.drew ?_ | with_reducible refine below_drewN ?_ _ | with_reducible (refine Below.trans ?_ (Below.mono hb1 (by first | omega | (simp; done) | (simp; omega))))))).mono ?_
         rintro e w3 ⟨v3, rfl, hb3, hf3⟩
         obtain ⟨q1, q2, q3⟩ := ((Blk.new w1 42 #[.slice A1 n1 c1, .slice A2 n2 c2, .slice A3 n3 c3]).drew.below_ hb3).rules
         (have hA : FreeingRd w w3 (.agg #[.slice A1 n1 c1, .slice A2 n2 c2, .slice A3 n3 c3]) cs fs ws := FreeingRd.below ⟨A1, n1, c1, A2, n2, c2, A3, n3, c3, rfl, f1, f2, f3⟩ ((((Below.refl _ w1).alloc (Nat.le_refl _) _).drew).trans (hb3.mono (by simp))))
         obtain ⟨B1, m1, d1, B2, m2, d2, B3, m3, d3, rfl, g1, g2, g3⟩ := hf3)
      | (go_simp
         go_at_call 24
         refine (freeings_any w3 w _ _ _ cs fs ws lc lf lw hA ⟨B1, m1, d1, B2, m2, d2, B3, m3, d3, rfl, g1, g2, g3⟩).mono ?_
         rintro e w4 ⟨rfl, hb4⟩))
    all_goals
      go_wp2_with fail
      go_ret
      have hz3 := hb3.size
      simp at hz3
      exact ⟨rfl, (((hb1.trans (((Below.refl _ w1).alloc hz1 _).drew)).trans (hb3.mono (by simp; omega))).trans (hb4.mono (by omega)))⟩
end Go.Proofs.Ytpbafmdebflbpaa
