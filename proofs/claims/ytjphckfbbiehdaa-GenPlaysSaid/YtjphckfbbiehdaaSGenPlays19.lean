/- The reference's memory: what is wrong with a field; with whatever is to be done. -/
import Derived.Test.YtjphckfbbiehdaaSGenPlays18
set_option linter.unusedSimpArgs false
set_option linter.unusedVariables false
namespace Go.Proofs.Ytjphckfbbiehdaa
open Go.RowKit
theorem belowN {w w' : World} (h : Below w.heap.size w w') (n : Nat) : Below w.heap.size w (w'.drewN n) := ((Chg.of_below h (fun _ => False)).drewN n).below (fun _ h => h.elim)
theorem rfErr_cases {Bm : Nat} {s : RMem} {w : World} (hP : (rmI Bm s).P w) (ok : ROk s) (r : Nat) (at_ : Int) :
    (rgA s.regs r).1 = true → ∃ i : Nat, (rgA s.regs r).2 = (i : Int) ∧ ∃ hi : i < s.obs.length, s.obs[i].n ≤ 4 ∧ fErr (absR s).objs (rgA s.regs r) at_ = if at_ < 0 then 3 else if (s.obs[i].n : Int) ≤ at_ then 3 else 0 := by
  intro h1
  have hps : (absR s).objs.length = s.obs.length := by simp [absR]
  have hv := valsOk_getD ok.m.vr r
  have hv2 : (rgA s.regs r).1 = true → 0 ≤ (rgA s.regs r).2 ∧ (rgA s.regs r).2 < (s.obs.length : Int) := by rw [← hps]; unfold rgA; rw [show ((r : Int)).toNat = r from by omega]; exact hv
  obtain ⟨h4, h5⟩ := hv2 h1
  obtain ⟨i, hi2⟩ := int_nat h4
  have hi : i < s.obs.length := by omega
  have e2 : obA (absR s).objs (i : Int) = s.obs[i].fields := by
    unfold obA absR
    rw [show ((i : Int)).toNat = i from by omega, List.getD_eq_getElem?_getD]; simp [List.getElem?_eq_getElem hi]
  have e3 := rm_len hP (List.getElem_mem hi)
  have e4 := ok.m.f4 s.obs[i].fields (by unfold absR; exact List.mem_map.2 ⟨s.obs[i], List.getElem_mem hi, rfl⟩)
  refine ⟨i, hi2, hi, by omega, ?_⟩
  unfold fErr
  rw [if_neg (by simp [h1]), hi2, e2, e3]
  by_cases h : at_ < 0
  · rw [if_pos (.inl h), if_pos h]
  · rw [if_neg h]
    by_cases h6 : (s.obs[i].n : Int) ≤ at_
    · rw [if_pos (.inr h6), if_pos h6]
    · rw [if_neg (fun h7 => h7.elim h h6), if_neg h6]
set_option maxRecDepth 100000 in
set_option maxHeartbeats 8000000 in
theorem rw_4 {Bm : Nat} {s : RMem} {w : World} (hP : (rmI Bm s).P w) (ok : ROk s) (R Q : Nat) (hR : R < 8) (hQ : Q < 8) (at_ n : Int) :
    Calls Try.prog 78 #[.pointer (some ⟨Bm, 0, none⟩), .agg #[.int .i64 4, .int .i64 R, .int .i64 Q, .int .i64 at_, .int .i64 n]] w fun e w' => e = .returned (.int .i64 (fErr (absR s).objs (rgA s.regs R) at_)) ∧ Below w.heap.size w w' := by
  have h8 : s.regs.length = 8 := ok.m.r8
  have hcs := rfErr_cases hP ok R at_
  obtain ⟨g, hg⟩ : ∃ g, w.heap.size = g := ⟨_, rfl⟩
  have hS0 := (Sep.start hP).blkAt 39 #[.int .i64 4, .int .i64 R, .int .i64 Q, .int .i64 at_, .int .i64 n] (g := g) hg
  have hbB : Below w.heap.size w (w.alloc (.cells #[.int .i64 4, .int .i64 R, .int .i64 Q, .int .i64 at_, .int .i64 n] 39)) := by exact (Below.refl _ w).alloc (Nat.le_refl _) _
  obtain ⟨a1, _, a3, _⟩ := hS0.rules 1 (g := g) (t := 39) rfl
  have e0 := (a1 0).trans (show _ = some (.int .i64 4) from rfl)
  have e1 := (a1 1).trans (show _ = some (.int .i64 (R : Int)) from rfl)
  have e2 := (a1 2).trans (show _ = some (.int .i64 (Q : Int)) from rfl)
  have e3 := (a1 3).trans (show _ = some (.int .i64 at_) from rfl)
  have hP0 : (rmI Bm s).P _ := hS0.get 0 rfl
  obtain ⟨m0, m1, _, m3, _⟩ := rm_mem hP0
  obtain ⟨L, hL⟩ : ∃ x, s.regs.length = x := ⟨_, rfl⟩
  rw [hL] at m0
  have z1 : R < L := by omega
  obtain ⟨i3, i4, _, _, i5⟩ := rm_reg hP0 h8 R (by omega)
  have b1 : badR (R : Int) = false := by unfold badR; simp; omega
  have b2 : badR (Q : Int) = false := by unfold badR; simp; omega
  obtain ⟨v, hv⟩ : ∃ v, rgA s.regs (R : Int) = v := ⟨_, rfl⟩
  rw [hv] at hcs i3 i4 ⊢
  obtain ⟨bv, mv⟩ := v
  dsimp only at i3 i4 hcs
  have HS0 := hide hS0
  have HBB := hide hbB
  clear a1 hL hv hP hP0 hS0 ok hbB h8
  have hmx : Try.prog.follows .mixedOrders = true := by kernel_rfl
  cases bv with
  | false =>
    have hfe : fErr (absR s).objs (false, mv) at_ = 5 := rfl
    rw [hfe]
    clear hcs
    go_enter Try.func78, Try.ntmps78
    go_wp2_with fail
    refine (reg_any _ R false b1).mono ?_
    rintro e w1 ⟨rfl, rfl⟩
    go_wp2_with fail
    refine (reg_any _ Q false b2).mono ?_
    rintro e w2 ⟨rfl, rfl⟩
    clear b1 b2
    go_wp2_with fail
    go_ret
    exact ⟨rfl, HBB.out.alloc (by simp) _⟩
  | true =>
    obtain ⟨i, hmi, hi, hn4, hfe⟩ := hcs rfl
    try dsimp only at hmi
    subst hmi
    rw [hfe]
    clear hfe hcs
    by_cases h1 : at_ < 0
    · rw [if_pos h1]
      have t1 : decide (at_ < 0) = true := by simp [h1]
      clear h1
      go_enter Try.func78, Try.ntmps78
      go_wp2_with fail
      refine (reg_any _ R false b1).mono ?_
      rintro e w1 ⟨rfl, rfl⟩
      go_wp2_with fail
      refine (reg_any _ Q false b2).mono ?_
      rintro e w2 ⟨rfl, rfl⟩
      clear b1 b2
      go_wp2_with fail
      go_quiet (fail)
      go_wp2_with fail
      go_ret
      exact ⟨rfl, belowN (HBB.out.alloc (by simp) _) _⟩
    · rw [if_neg h1]
      have t1 : decide (at_ < 0) = false := by simp; omega
      obtain ⟨ga, hga, o1, o2⟩ := rm_ob (HS0.out.get 0 rfl) hi
      rw [hga] at m1
      obtain ⟨oN, hoN⟩ : ∃ x, s.obs[i].n = x := ⟨_, rfl⟩
      rw [hoN] at o1 hn4 ⊢
      have m1' := (World.cell?_alloc_lt _ (.cells #[.bool true, .int .i64 (i : Int)] 107) _ m3).trans m1
      have o1' := (World.cell?_alloc_lt _ (.cells #[.bool true, .int .i64 (i : Int)] 107) _ o2).trans o1
      clear hga hoN h1
      by_cases h2 : (oN : Int) ≤ at_
      · rw [if_pos h2]
        have t2 : decide ((oN : Int) ≤ at_) = true := by simp [h2]
        clear h2
        go_enter Try.func78, Try.ntmps78
        go_wp2_with fail
        refine (reg_any _ R false b1).mono ?_
        rintro e w1 ⟨rfl, rfl⟩
        go_wp2_with fail
        refine (reg_any _ Q false b2).mono ?_
        rintro e w2 ⟨rfl, rfl⟩
        clear b1 b2
        go_wp2_with fail
        go_quiet (fail)
        go_wp2_with fail
        go_ret
        exact ⟨rfl, belowN (HBB.out.alloc (by simp) _) _⟩
      · rw [if_neg h2]
        have t2 : decide ((oN : Int) ≤ at_) = false := by simp; omega
        clear h2
        go_enter Try.func78, Try.ntmps78
        go_wp2_with fail
        refine (reg_any _ R false b1).mono ?_
        rintro e w1 ⟨rfl, rfl⟩
        go_wp2_with fail
        refine (reg_any _ Q false b2).mono ?_
        rintro e w2 ⟨rfl, rfl⟩
        clear b1 b2
        go_wp2_with fail
        go_quiet (fail)
        go_wp2_with fail
        go_ret
        exact ⟨rfl, belowN (HBB.out.alloc (by simp) _) _⟩
set_option maxRecDepth 100000 in
set_option maxHeartbeats 8000000 in
theorem rw_5 {Bm : Nat} {s : RMem} {w : World} (hP : (rmI Bm s).P w) (ok : ROk s) (R Q : Nat) (hR : R < 8) (hQ : Q < 8) (at_ n : Int) :
    Calls Try.prog 78 #[.pointer (some ⟨Bm, 0, none⟩), .agg #[.int .i64 5, .int .i64 R, .int .i64 Q, .int .i64 at_, .int .i64 n]] w fun e w' => e = .returned (.int .i64 (fErr (absR s).objs (rgA s.regs Q) at_)) ∧ Below w.heap.size w w' := by
  have h8 : s.regs.length = 8 := ok.m.r8
  have hcs := rfErr_cases hP ok Q at_
  obtain ⟨g, hg⟩ : ∃ g, w.heap.size = g := ⟨_, rfl⟩
  have hS0 := (Sep.start hP).blkAt 39 #[.int .i64 5, .int .i64 R, .int .i64 Q, .int .i64 at_, .int .i64 n] (g := g) hg
  have hbB : Below w.heap.size w (w.alloc (.cells #[.int .i64 5, .int .i64 R, .int .i64 Q, .int .i64 at_, .int .i64 n] 39)) := by exact (Below.refl _ w).alloc (Nat.le_refl _) _
  obtain ⟨a1, _, a3, _⟩ := hS0.rules 1 (g := g) (t := 39) rfl
  have e0 := (a1 0).trans (show _ = some (.int .i64 5) from rfl)
  have e1 := (a1 1).trans (show _ = some (.int .i64 (R : Int)) from rfl)
  have e2 := (a1 2).trans (show _ = some (.int .i64 (Q : Int)) from rfl)
  have e3 := (a1 3).trans (show _ = some (.int .i64 at_) from rfl)
  have hP0 : (rmI Bm s).P _ := hS0.get 0 rfl
  obtain ⟨m0, m1, _, m3, _⟩ := rm_mem hP0
  obtain ⟨L, hL⟩ : ∃ x, s.regs.length = x := ⟨_, rfl⟩
  rw [hL] at m0
  have z1 : Q < L := by omega
  obtain ⟨i3, i4, _, _, i5⟩ := rm_reg hP0 h8 Q (by omega)
  have b1 : badR (R : Int) = false := by unfold badR; simp; omega
  have b2 : badR (Q : Int) = false := by unfold badR; simp; omega
  obtain ⟨v, hv⟩ : ∃ v, rgA s.regs (Q : Int) = v := ⟨_, rfl⟩
  rw [hv] at hcs i3 i4 ⊢
  obtain ⟨bv, mv⟩ := v
  dsimp only at i3 i4 hcs
  have HS0 := hide hS0
  have HBB := hide hbB
  clear a1 hL hv hP hP0 hS0 ok hbB h8
  have hmx : Try.prog.follows .mixedOrders = true := by kernel_rfl
  cases bv with
  | false =>
    have hfe : fErr (absR s).objs (false, mv) at_ = 5 := rfl
    rw [hfe]
    clear hcs
    go_enter Try.func78, Try.ntmps78
    go_wp2_with fail
    refine (reg_any _ R false b1).mono ?_
    rintro e w1 ⟨rfl, rfl⟩
    go_wp2_with fail
    refine (reg_any _ Q false b2).mono ?_
    rintro e w2 ⟨rfl, rfl⟩
    clear b1 b2
    go_wp2_with fail
    go_ret
    exact ⟨rfl, HBB.out.alloc (by simp) _⟩
  | true =>
    obtain ⟨i, hmi, hi, hn4, hfe⟩ := hcs rfl
    try dsimp only at hmi
    subst hmi
    rw [hfe]
    clear hfe hcs
    by_cases h1 : at_ < 0
    · rw [if_pos h1]
      have t1 : decide (at_ < 0) = true := by simp [h1]
      clear h1
      go_enter Try.func78, Try.ntmps78
      go_wp2_with fail
      refine (reg_any _ R false b1).mono ?_
      rintro e w1 ⟨rfl, rfl⟩
      go_wp2_with fail
      refine (reg_any _ Q false b2).mono ?_
      rintro e w2 ⟨rfl, rfl⟩
      clear b1 b2
      go_wp2_with fail
      go_quiet (fail)
      go_wp2_with fail
      go_ret
      exact ⟨rfl, belowN (HBB.out.alloc (by simp) _) _⟩
    · rw [if_neg h1]
      have t1 : decide (at_ < 0) = false := by simp; omega
      obtain ⟨ga, hga, o1, o2⟩ := rm_ob (HS0.out.get 0 rfl) hi
      rw [hga] at m1
      obtain ⟨oN, hoN⟩ : ∃ x, s.obs[i].n = x := ⟨_, rfl⟩
      rw [hoN] at o1 hn4 ⊢
      have m1' := (World.cell?_alloc_lt _ (.cells #[.bool true, .int .i64 (i : Int)] 107) _ m3).trans m1
      have o1' := (World.cell?_alloc_lt _ (.cells #[.bool true, .int .i64 (i : Int)] 107) _ o2).trans o1
      clear hga hoN h1
      by_cases h2 : (oN : Int) ≤ at_
      · rw [if_pos h2]
        have t2 : decide ((oN : Int) ≤ at_) = true := by simp [h2]
        clear h2
        go_enter Try.func78, Try.ntmps78
        go_wp2_with fail
        refine (reg_any _ R false b1).mono ?_
        rintro e w1 ⟨rfl, rfl⟩
        go_wp2_with fail
        refine (reg_any _ Q false b2).mono ?_
        rintro e w2 ⟨rfl, rfl⟩
        clear b1 b2
        go_wp2_with fail
        go_quiet (fail)
        go_wp2_with fail
        go_ret
        exact ⟨rfl, belowN (HBB.out.alloc (by simp) _) _⟩
      · rw [if_neg h2]
        have t2 : decide ((oN : Int) ≤ at_) = false := by simp; omega
        clear h2
        go_enter Try.func78, Try.ntmps78
        go_wp2_with fail
        refine (reg_any _ R false b1).mono ?_
        rintro e w1 ⟨rfl, rfl⟩
        go_wp2_with fail
        refine (reg_any _ Q false b2).mono ?_
        rintro e w2 ⟨rfl, rfl⟩
        clear b1 b2
        go_wp2_with fail
        go_quiet (fail)
        go_wp2_with fail
        go_ret
        exact ⟨rfl, belowN (HBB.out.alloc (by simp) _) _⟩
theorem rwrong_any {Bm : Nat} {s : RMem} {w : World} (hP : (rmI Bm s).P w) (ok : ROk s) (d : DoV) : Calls Try.prog 78 #[.pointer (some ⟨Bm, 0, none⟩), .agg d.cells] w fun e w' => e = .returned (.int .i64 (rWrong d (absR s))) ∧ Below w.heap.size w w' := by
  obtain ⟨k, to, fr, at_, n⟩ := d
  unfold DoV.cells
  by_cases hw0 : wrongM ⟨k, to, fr, at_, n⟩ = 0 ∧ (k = 4 ∨ k = 5)
  · obtain ⟨hw, hk⟩ := hw0
    unfold rWrong
    rw [if_neg (by omega)]
    rcases hk with rfl | rfl
    · obtain ⟨R, rfl, hR⟩ := to_of hw (by decide)
      obtain ⟨Q, rfl, hQ⟩ := fr_of hw (by decide) (by decide)
      exact rw_4 hP ok R Q hR hQ at_ n
    · obtain ⟨R, rfl, hR⟩ := to_of hw (by decide)
      obtain ⟨Q, rfl, hQ⟩ := fr_of hw (by decide) (by decide)
      exact rw_5 hP ok R Q hR hQ at_ n
  have hval : rWrong ⟨k, to, fr, at_, n⟩ (absR s) = wrongM ⟨k, to, fr, at_, n⟩ := by
    unfold rWrong
    by_cases h : wrongM ⟨k, to, fr, at_, n⟩ = 0
    · rw [if_neg (by omega), h]
      dsimp only
      rw [if_neg (fun h4 => hw0 ⟨h, .inl h4⟩), if_neg (fun h4 => hw0 ⟨h, .inr h4⟩)]
    · rw [if_pos h]
  rw [hval]
  unfold wrongM at hw0 ⊢
  clear hval
  dsimp only at hw0 ⊢
  by_cases h1 : k < 1
  · rw [if_pos (.inl h1)]; exact rw_lo w Bm to fr at_ n k h1
  by_cases h2 : 7 < k
  · rw [if_pos (.inr h2)]; exact rw_hi w Bm to fr at_ n k h2
  rw [if_neg (fun h => h.elim h1 h2)] at hw0 ⊢
  rcases (show k = 1 ∨ k = 2 ∨ k = 3 ∨ k = 4 ∨ k = 5 ∨ k = 6 ∨ k = 7 from by omega) with rfl | rfl | rfl | rfl | rfl | rfl | rfl
  · clear hw0
    cases ht : badR to with
    | true => rw [if_pos (by simp)]; exact rw_1_to w Bm to fr at_ n ht
    | false =>
      rw [if_neg (by simp)]
      by_cases h3 : n < 0
      · rw [if_pos (by simp [h3])]; exact rw_1_lo w Bm to fr at_ n ht h3
      by_cases h4 : 4 < n
      · rw [if_pos (by simp [h4])]; exact rw_1_hi w Bm to fr at_ n ht h4
      · rw [if_neg (by simp; omega), if_neg (by simp)]; exact rw_1_ok w Bm to fr at_ n ht (by omega) (by omega)
  · clear hw0
    cases ht : badR to with
    | true => rw [if_pos (by simp)]; exact rw_2_to w Bm to fr at_ n ht
    | false =>
      rw [if_neg (by simp), if_neg (by simp)]
      by_cases h3 : n < -4611686018427387904
      · rw [if_pos (by simp [h3])]; exact rw_2_lo w Bm to fr at_ n ht h3
      by_cases h4 : 4611686018427387903 < n
      · rw [if_pos (by simp [h4])]; exact rw_2_hi w Bm to fr at_ n ht h4
      · rw [if_neg (by simp; omega)]; exact rw_2_ok w Bm to fr at_ n ht (by omega) (by omega)
  · cases ht : badR to with
    | true => rw [if_pos (by simp)]; exact rw_3_to w Bm to fr at_ n ht
    | false =>
      cases hf : badR fr with
      | true => rw [if_pos (by simp)]; exact rw_3_fr w Bm to fr at_ n ht hf
      | false => rw [if_neg (by simp), if_neg (by simp), if_neg (by simp)]; exact rw_3_ok w Bm to fr at_ n ht hf
  · cases ht : badR to with
    | true => rw [if_pos (by simp)]; exact rw_4_to w Bm to fr at_ n ht
    | false =>
      cases hf : badR fr with
      | true => rw [if_pos (by simp)]; exact rw_4_fr w Bm to fr at_ n ht hf
      | false => exact absurd ⟨by rw [if_neg (by simp [ht, hf]), if_neg (by simp), if_neg (by simp)], by simp⟩ hw0
  · cases ht : badR to with
    | true => rw [if_pos (by simp)]; exact rw_5_to w Bm to fr at_ n ht
    | false =>
      cases hf : badR fr with
      | true => rw [if_pos (by simp)]; exact rw_5_fr w Bm to fr at_ n ht hf
      | false => exact absurd ⟨by rw [if_neg (by simp [ht, hf]), if_neg (by simp), if_neg (by simp)], by simp⟩ hw0
  · cases ht : badR to with
    | true => rw [if_pos (by simp)]; exact rw_6_to w Bm to fr at_ n ht
    | false =>
      cases hf : badR fr with
      | true => rw [if_pos (by simp)]; exact rw_6_fr w Bm to fr at_ n ht hf
      | false => rw [if_neg (by simp), if_neg (by simp), if_neg (by simp)]; exact rw_6_ok w Bm to fr at_ n ht hf
  · cases hf : badR fr with
    | true => rw [if_pos (by simp)]; exact rw_7_fr w Bm to fr at_ n hf
    | false => rw [if_neg (by simp), if_neg (by simp), if_neg (by simp)]; exact rw_7_ok w Bm to fr at_ n hf
end Go.Proofs.Ytjphckfbbiehdaa
