/- The reference's memory: what is wrong with a field; with whatever is to be done. The reference's memory: made from a graph. A machine's first registers. -/
import Derived.Test.YtjphckfbbiehdaaGIdealPlays9
import Derived.StillTailTactics
import Derived.Laws.CopyOwn
set_option linter.unusedSimpArgs false
set_option linter.unusedVariables false
namespace Go.Proofs.Ytjphckfbbiehdaa
open Go.RowKit
theorem belowN {w w' : World} (h : Below w.heap.size w w') (n : Nat) : Below w.heap.size w (w'.drewN n) := ((Chg.of_below h (fun _ => False)).drewN n).below (fun _ h => h.elim)
theorem rfErr_cases {Bm : Nat} {s : RMem} {w : World} (hP : (rmI Bm s).P w) (ok : ROk s) (r : Nat) (at_ : Int) :
    (rgA s.regs r).1 = true → ∃ i : Nat, (rgA s.regs r).2 = (i : Int) ∧ ∃ hi : i < s.obs.length, s.obs[i].n ≤ 4 ∧ fErr (absR s).objs (rgA s.regs r) at_ = if at_ < 0 then 3 else if (s.obs[i].n : Int) ≤ at_ then 3 else 0 := by
  intro h1
  have hps : (absR s).objs.length = s.obs.length := by simp [absR]
  have hv := valsOk_getD ok.m.vr r
  have hv2 : (rgA s.regs r).1 = true → 0 ≤ (rgA s.regs r).2 ∧ (rgA s.regs r).2 < (s.obs.length : Int) := by rw [← hps]; unfold rgA; rw [show ((r : Int)).toNat = r from by omega]; exact hv
  obtain ⟨h4, h5⟩ := hv2 h1
  obtain ⟨i, hi2⟩ := int_nat h4
  have hi : i < s.obs.length := by omega
  have e2 : obA (absR s).objs (i : Int) = s.obs[i].fields := by
    unfold obA absR
    rw [show ((i : Int)).toNat = i from by omega, List.getD_eq_getElem?_getD]; simp [List.getElem?_eq_getElem hi]
  have e3 := rm_len hP (List.getElem_mem hi)
  have e4 := ok.m.f4 s.obs[i].fields (by unfold absR; exact List.mem_map.2 ⟨s.obs[i], List.getElem_mem hi, rfl⟩)
  refine ⟨i, hi2, hi, by omega, ?_⟩
  unfold fErr
  rw [if_neg (by simp [h1]), hi2, e2, e3]
  by_cases h : at_ < 0
  · rw [if_pos (.inl h), if_pos h]
  · rw [if_neg h]
    by_cases h6 : (s.obs[i].n : Int) ≤ at_
    · rw [if_pos (.inr h6), if_pos h6]
    · rw [if_neg (fun h7 => h7.elim h h6), if_neg h6]

set_option maxRecDepth 100000 in
set_option maxHeartbeats 8000000 in
theorem rw_4 {Bm : Nat} {s : RMem} {w : World} (hP : (rmI Bm s).P w) (ok : ROk s) (R Q : Nat) (hR : R < 8) (hQ : Q < 8) (at_ n : Int) :
    Calls Try.prog 78 #[.pointer (some ⟨Bm, 0, none⟩), .agg #[.int .i64 4, .int .i64 R, .int .i64 Q, .int .i64 at_, .int .i64 n]] w fun e w' => e = .returned (.int .i64 (fErr (absR s).objs (rgA s.regs R) at_)) ∧ Below w.heap.size w w' := by
  have h8 : s.regs.length = 8 := ok.m.r8
  have hcs := rfErr_cases hP ok R at_
  obtain ⟨g, hg⟩ : ∃ g, w.heap.size = g := ⟨_, rfl⟩
  have hS0 := (Sep.start hP).blkAt 39 #[.int .i64 4, .int .i64 R, .int .i64 Q, .int .i64 at_, .int .i64 n] (g := g) hg
  have hbB : Below w.heap.size w (w.alloc (.cells #[.int .i64 4, .int .i64 R, .int .i64 Q, .int .i64 at_, .int .i64 n] 39)) := by exact (Below.refl _ w).alloc (Nat.le_refl _) _
  obtain ⟨a1, _, a3, _⟩ := hS0.rules 1 (g := g) (t := 39) rfl
  have e0 := (a1 0).trans (show _ = some (.int .i64 4) from rfl)
  have e1 := (a1 1).trans (show _ = some (.int .i64 (R : Int)) from rfl)
  have e2 := (a1 2).trans (show _ = some (.int .i64 (Q : Int)) from rfl)
  have e3 := (a1 3).trans (show _ = some (.int .i64 at_) from rfl)
  have hP0 : (rmI Bm s).P _ := hS0.get 0 rfl
  obtain ⟨m0, m1, _, m3, _⟩ := rm_mem hP0
  obtain ⟨L, hL⟩ : ∃ x, s.regs.length = x := ⟨_, rfl⟩
  rw [hL] at m0
  have z1 : R < L := by omega
  obtain ⟨i3, i4, _, _, i5⟩ := rm_reg hP0 h8 R (by omega)
  have b1 : badR (R : Int) = false := by unfold badR; simp; omega
  have b2 : badR (Q : Int) = false := by unfold badR; simp; omega
  obtain ⟨v, hv⟩ : ∃ v, rgA s.regs (R : Int) = v := ⟨_, rfl⟩
  rw [hv] at hcs i3 i4 ⊢
  obtain ⟨bv, mv⟩ := v
  dsimp only at i3 i4 hcs
  have HS0 := hide hS0
  have HBB := hide hbB
  clear a1 hL hv hP hP0 hS0 ok hbB h8
  have hmx : Try.prog.follows .mixedOrders = true := by kernel_rfl
  cases bv with
  | false =>
    have hfe : fErr (absR s).objs (false, mv) at_ = 5 := rfl
    rw [hfe]
    clear hcs
    go_enter Try.func78, Try.ntmps78
    go_wp2_with fail
    refine (reg_any _ R false b1).mono ?_
    rintro e w1 ⟨rfl, rfl⟩
    go_wp2_with fail
    refine (reg_any _ Q false b2).mono ?_
    rintro e w2 ⟨rfl, rfl⟩
    clear b1 b2
    go_wp2_with fail
    go_ret
    exact ⟨rfl, HBB.out.alloc (by simp) _⟩
  | true =>
    obtain ⟨i, hmi, hi, hn4, hfe⟩ := hcs rfl
    try dsimp only at hmi
    subst hmi
    rw [hfe]
    clear hfe hcs
    by_cases h1 : at_ < 0
    · rw [if_pos h1]
      have t1 : decide (at_ < 0) = true := by simp [h1]
      clear h1
      go_enter Try.func78, Try.ntmps78
      go_wp2_with fail
      refine (reg_any _ R false b1).mono ?_
      rintro e w1 ⟨rfl, rfl⟩
      go_wp2_with fail
      refine (reg_any _ Q false b2).mono ?_
      rintro e w2 ⟨rfl, rfl⟩
      clear b1 b2
      go_wp2_with fail
      go_quiet (fail)
      go_wp2_with fail
      go_ret
      exact ⟨rfl, belowN (HBB.out.alloc (by simp) _) _⟩
    · rw [if_neg h1]
      have t1 : decide (at_ < 0) = false := by simp; omega
      obtain ⟨ga, hga, o1, o2⟩ := rm_ob (HS0.out.get 0 rfl) hi
      rw [hga] at m1
      obtain ⟨oN, hoN⟩ : ∃ x, s.obs[i].n = x := ⟨_, rfl⟩
      rw [hoN] at o1 hn4 ⊢
      have m1' := (World.cell?_alloc_lt _ (.cells #[.bool true, .int .i64 (i : Int)] 107) _ m3).trans m1
      have o1' := (World.cell?_alloc_lt _ (.cells #[.bool true, .int .i64 (i : Int)] 107) _ o2).trans o1
      clear hga hoN h1
      by_cases h2 : (oN : Int) ≤ at_
      · rw [if_pos h2]
        have t2 : decide ((oN : Int) ≤ at_) = true := by simp [h2]
        clear h2
        go_enter Try.func78, Try.ntmps78
        go_wp2_with fail
        refine (reg_any _ R false b1).mono ?_
        rintro e w1 ⟨rfl, rfl⟩
        go_wp2_with fail
        refine (reg_any _ Q false b2).mono ?_
        rintro e w2 ⟨rfl, rfl⟩
        clear b1 b2
        go_wp2_with fail
        go_quiet (fail)
        go_wp2_with fail
        go_ret
        exact ⟨rfl, belowN (HBB.out.alloc (by simp) _) _⟩
      · rw [if_neg h2]
        have t2 : decide ((oN : Int) ≤ at_) = false := by simp; omega
        clear h2
        go_enter Try.func78, Try.ntmps78
        go_wp2_with fail
        refine (reg_any _ R false b1).mono ?_
        rintro e w1 ⟨rfl, rfl⟩
        go_wp2_with fail
        refine (reg_any _ Q false b2).mono ?_
        rintro e w2 ⟨rfl, rfl⟩
        clear b1 b2
        go_wp2_with fail
        go_quiet (fail)
        go_wp2_with fail
        go_ret
        exact ⟨rfl, belowN (HBB.out.alloc (by simp) _) _⟩

set_option maxRecDepth 100000 in
set_option maxHeartbeats 8000000 in
theorem rw_5 {Bm : Nat} {s : RMem} {w : World} (hP : (rmI Bm s).P w) (ok : ROk s) (R Q : Nat) (hR : R < 8) (hQ : Q < 8) (at_ n : Int) :
    Calls Try.prog 78 #[.pointer (some ⟨Bm, 0, none⟩), .agg #[.int .i64 5, .int .i64 R, .int .i64 Q, .int .i64 at_, .int .i64 n]] w fun e w' => e = .returned (.int .i64 (fErr (absR s).objs (rgA s.regs Q) at_)) ∧ Below w.heap.size w w' := by
  have h8 : s.regs.length = 8 := ok.m.r8
  have hcs := rfErr_cases hP ok Q at_
  obtain ⟨g, hg⟩ : ∃ g, w.heap.size = g := ⟨_, rfl⟩
  have hS0 := (Sep.start hP).blkAt 39 #[.int .i64 5, .int .i64 R, .int .i64 Q, .int .i64 at_, .int .i64 n] (g := g) hg
  have hbB : Below w.heap.size w (w.alloc (.cells #[.int .i64 5, .int .i64 R, .int .i64 Q, .int .i64 at_, .int .i64 n] 39)) := by exact (Below.refl _ w).alloc (Nat.le_refl _) _
  obtain ⟨a1, _, a3, _⟩ := hS0.rules 1 (g := g) (t := 39) rfl
  have e0 := (a1 0).trans (show _ = some (.int .i64 5) from rfl)
  have e1 := (a1 1).trans (show _ = some (.int .i64 (R : Int)) from rfl)
  have e2 := (a1 2).trans (show _ = some (.int .i64 (Q : Int)) from rfl)
  have e3 := (a1 3).trans (show _ = some (.int .i64 at_) from rfl)
  have hP0 : (rmI Bm s).P _ := hS0.get 0 rfl
  obtain ⟨m0, m1, _, m3, _⟩ := rm_mem hP0
  obtain ⟨L, hL⟩ : ∃ x, s.regs.length = x := ⟨_, rfl⟩
  rw [hL] at m0
  have z1 : Q < L := by omega
  obtain ⟨i3, i4, _, _, i5⟩ := rm_reg hP0 h8 Q (by omega)
  have b1 : badR (R : Int) = false := by unfold badR; simp; omega
  have b2 : badR (Q : Int) = false := by unfold badR; simp; omega
  obtain ⟨v, hv⟩ : ∃ v, rgA s.regs (Q : Int) = v := ⟨_, rfl⟩
  rw [hv] at hcs i3 i4 ⊢
  obtain ⟨bv, mv⟩ := v
  dsimp only at i3 i4 hcs
  have HS0 := hide hS0
  have HBB := hide hbB
  clear a1 hL hv hP hP0 hS0 ok hbB h8
  have hmx : Try.prog.follows .mixedOrders = true := by kernel_rfl
  cases bv with
  | false =>
    have hfe : fErr (absR s).objs (false, mv) at_ = 5 := rfl
    rw [hfe]
    clear hcs
    go_enter Try.func78, Try.ntmps78
    go_wp2_with fail
    refine (reg_any _ R false b1).mono ?_
    rintro e w1 ⟨rfl, rfl⟩
    go_wp2_with fail
    refine (reg_any _ Q false b2).mono ?_
    rintro e w2 ⟨rfl, rfl⟩
    clear b1 b2
    go_wp2_with fail
    go_ret
    exact ⟨rfl, HBB.out.alloc (by simp) _⟩
  | true =>
    obtain ⟨i, hmi, hi, hn4, hfe⟩ := hcs rfl
    try dsimp only at hmi
    subst hmi
    rw [hfe]
    clear hfe hcs
    by_cases h1 : at_ < 0
    · rw [if_pos h1]
      have t1 : decide (at_ < 0) = true := by simp [h1]
      clear h1
      go_enter Try.func78, Try.ntmps78
      go_wp2_with fail
      refine (reg_any _ R false b1).mono ?_
      rintro e w1 ⟨rfl, rfl⟩
      go_wp2_with fail
      refine (reg_any _ Q false b2).mono ?_
      rintro e w2 ⟨rfl, rfl⟩
      clear b1 b2
      go_wp2_with fail
      go_quiet (fail)
      go_wp2_with fail
      go_ret
      exact ⟨rfl, belowN (HBB.out.alloc (by simp) _) _⟩
    · rw [if_neg h1]
      have t1 : decide (at_ < 0) = false := by simp; omega
      obtain ⟨ga, hga, o1, o2⟩ := rm_ob (HS0.out.get 0 rfl) hi
      rw [hga] at m1
      obtain ⟨oN, hoN⟩ : ∃ x, s.obs[i].n = x := ⟨_, rfl⟩
      rw [hoN] at o1 hn4 ⊢
      have m1' := (World.cell?_alloc_lt _ (.cells #[.bool true, .int .i64 (i : Int)] 107) _ m3).trans m1
      have o1' := (World.cell?_alloc_lt _ (.cells #[.bool true, .int .i64 (i : Int)] 107) _ o2).trans o1
      clear hga hoN h1
      by_cases h2 : (oN : Int) ≤ at_
      · rw [if_pos h2]
        have t2 : decide ((oN : Int) ≤ at_) = true := by simp [h2]
        clear h2
        go_enter Try.func78, Try.ntmps78
        go_wp2_with fail
        refine (reg_any _ R false b1).mono ?_
        rintro e w1 ⟨rfl, rfl⟩
        go_wp2_with fail
        refine (reg_any _ Q false b2).mono ?_
        rintro e w2 ⟨rfl, rfl⟩
        clear b1 b2
        go_wp2_with fail
        go_quiet (fail)
        go_wp2_with fail
        go_ret
        exact ⟨rfl, belowN (HBB.out.alloc (by simp) _) _⟩
      · rw [if_neg h2]
        have t2 : decide ((oN : Int) ≤ at_) = false := by simp; omega
        clear h2
        go_enter Try.func78, Try.ntmps78
        go_wp2_with fail
        refine (reg_any _ R false b1).mono ?_
        rintro e w1 ⟨rfl, rfl⟩
        go_wp2_with fail
        refine (reg_any _ Q false b2).mono ?_
        rintro e w2 ⟨rfl, rfl⟩
        clear b1 b2
        go_wp2_with fail
        go_quiet (fail)
        go_wp2_with fail
        go_ret
        exact ⟨rfl, belowN (HBB.out.alloc (by simp) _) _⟩

theorem rwrong_any {Bm : Nat} {s : RMem} {w : World} (hP : (rmI Bm s).P w) (ok : ROk s) (d : DoV) : Calls Try.prog 78 #[.pointer (some ⟨Bm, 0, none⟩), .agg d.cells] w fun e w' => e = .returned (.int .i64 (rWrong d (absR s))) ∧ Below w.heap.size w w' := by
  obtain ⟨k, to, fr, at_, n⟩ := d
  unfold DoV.cells
  by_cases hw0 : wrongM ⟨k, to, fr, at_, n⟩ = 0 ∧ (k = 4 ∨ k = 5)
  · obtain ⟨hw, hk⟩ := hw0
    unfold rWrong
    rw [if_neg (by omega)]
    rcases hk with rfl | rfl
    · obtain ⟨R, rfl, hR⟩ := to_of hw (by decide)
      obtain ⟨Q, rfl, hQ⟩ := fr_of hw (by decide) (by decide)
      exact rw_4 hP ok R Q hR hQ at_ n
    · obtain ⟨R, rfl, hR⟩ := to_of hw (by decide)
      obtain ⟨Q, rfl, hQ⟩ := fr_of hw (by decide) (by decide)
      exact rw_5 hP ok R Q hR hQ at_ n
  have hval : rWrong ⟨k, to, fr, at_, n⟩ (absR s) = wrongM ⟨k, to, fr, at_, n⟩ := by
    unfold rWrong
    by_cases h : wrongM ⟨k, to, fr, at_, n⟩ = 0
    · rw [if_neg (by omega), h]
      dsimp only
      rw [if_neg (fun h4 => hw0 ⟨h, .inl h4⟩), if_neg (fun h4 => hw0 ⟨h, .inr h4⟩)]
    · rw [if_pos h]
  rw [hval]
  unfold wrongM at hw0 ⊢
  clear hval
  dsimp only at hw0 ⊢
  by_cases h1 : k < 1
  · rw [if_pos (.inl h1)]; exact rw_lo w Bm to fr at_ n k h1
  by_cases h2 : 7 < k
  · rw [if_pos (.inr h2)]; exact rw_hi w Bm to fr at_ n k h2
  rw [if_neg (fun h => h.elim h1 h2)] at hw0 ⊢
  rcases (show k = 1 ∨ k = 2 ∨ k = 3 ∨ k = 4 ∨ k = 5 ∨ k = 6 ∨ k = 7 from by omega) with rfl | rfl | rfl | rfl | rfl | rfl | rfl
  · clear hw0
    cases ht : badR to with
    | true => rw [if_pos (by simp)]; exact rw_1_to w Bm to fr at_ n ht
    | false =>
      rw [if_neg (by simp)]
      by_cases h3 : n < 0
      · rw [if_pos (by simp [h3])]; exact rw_1_lo w Bm to fr at_ n ht h3
      by_cases h4 : 4 < n
      · rw [if_pos (by simp [h4])]; exact rw_1_hi w Bm to fr at_ n ht h4
      · rw [if_neg (by simp; omega), if_neg (by simp)]; exact rw_1_ok w Bm to fr at_ n ht (by omega) (by omega)
  · clear hw0
    cases ht : badR to with
    | true => rw [if_pos (by simp)]; exact rw_2_to w Bm to fr at_ n ht
    | false =>
      rw [if_neg (by simp), if_neg (by simp)]
      by_cases h3 : n < -4611686018427387904
      · rw [if_pos (by simp [h3])]; exact rw_2_lo w Bm to fr at_ n ht h3
      by_cases h4 : 4611686018427387903 < n
      · rw [if_pos (by simp [h4])]; exact rw_2_hi w Bm to fr at_ n ht h4
      · rw [if_neg (by simp; omega)]; exact rw_2_ok w Bm to fr at_ n ht (by omega) (by omega)
  · cases ht : badR to with
    | true => rw [if_pos (by simp)]; exact rw_3_to w Bm to fr at_ n ht
    | false =>
      cases hf : badR fr with
      | true => rw [if_pos (by simp)]; exact rw_3_fr w Bm to fr at_ n ht hf
      | false => rw [if_neg (by simp), if_neg (by simp), if_neg (by simp)]; exact rw_3_ok w Bm to fr at_ n ht hf
  · cases ht : badR to with
    | true => rw [if_pos (by simp)]; exact rw_4_to w Bm to fr at_ n ht
    | false =>
      cases hf : badR fr with
      | true => rw [if_pos (by simp)]; exact rw_4_fr w Bm to fr at_ n ht hf
      | false => exact absurd ⟨by rw [if_neg (by simp [ht, hf]), if_neg (by simp), if_neg (by simp)], by simp⟩ hw0
  · cases ht : badR to with
    | true => rw [if_pos (by simp)]; exact rw_5_to w Bm to fr at_ n ht
    | false =>
      cases hf : badR fr with
      | true => rw [if_pos (by simp)]; exact rw_5_fr w Bm to fr at_ n ht hf
      | false => exact absurd ⟨by rw [if_neg (by simp [ht, hf]), if_neg (by simp), if_neg (by simp)], by simp⟩ hw0
  · cases ht : badR to with
    | true => rw [if_pos (by simp)]; exact rw_6_to w Bm to fr at_ n ht
    | false =>
      cases hf : badR fr with
      | true => rw [if_pos (by simp)]; exact rw_6_fr w Bm to fr at_ n ht hf
      | false => rw [if_neg (by simp), if_neg (by simp), if_neg (by simp)]; exact rw_6_ok w Bm to fr at_ n ht hf
  · cases hf : badR fr with
    | true => rw [if_pos (by simp)]; exact rw_7_fr w Bm to fr at_ n hf
    | false => rw [if_neg (by simp), if_neg (by simp), if_neg (by simp)]; exact rw_7_ok w Bm to fr at_ n hf
end Go.Proofs.Ytjphckfbbiehdaa

namespace Go.Proofs.Ytjphckfbbiehdaa
open Go.RowKit

def padR (l : List Val) (k : Nat) : List Val := l.take k ++ List.replicate (8 - k) (false, 0)
theorem padR_len (l : List Val) (k : Nat) (hk : k ≤ l.length) (h8 : k ≤ 8) : (padR l k).length = 8 := by
  unfold padR; rw [List.length_append, List.length_take, List.length_replicate]; omega
theorem padR_set (l : List Val) (k : Nat) (hk : k < l.length) (h8 : l.length ≤ 8) : (padR l k).set k l[k] = padR l (k + 1) := by
  unfold padR
  rw [List.set_append_right _ _ (by rw [List.length_take]; omega), List.length_take, Nat.min_eq_left (by omega), Nat.sub_self, show 8 - k = (8 - (k + 1)) + 1 from by omega, List.replicate_succ, List.set_cons_zero, List.take_succ_eq_append_getElem hk, List.append_assoc]
  rfl
theorem hmade8 : madeCells #[.bool false, .int .i64 0] (8 * 2) = (vals (zeroVs 8)).toArray := by
  apply Array.toList_inj.1; simp [madeCells, vals, zeroVs, List.range_succ, List.replicate]
theorem hval_make8 : ∀ w : World, (Instr.makeSlice 25 (.int .i64 8) (.int .i64 8)).run Try.prog w = .ok (.slice (some ⟨w.heap.size, 0, none⟩) 8 8) (w.alloc (.cells (vals (zeroVs 8)).toArray 107)) := by
  intro w
  obtain ⟨i, hi, hz, hs, hb⟩ := info_parts hval_info
  have h := run_make w 25 107 i _ Try.underlying25 hi hz .i64 .i64 8 8 (by omega) (Int.le_refl _) (by rw [hb]; omega) (by omega)
  simp only [show ((8 : Int)).toNat = 8 from rfl, hs] at h
  rw [show (Value.agg #[.bool false, .int .i64 0]).cells = #[.bool false, .int .i64 0] from rfl, hmade8] at h
  exact h
theorem hbool_info : (Try.prog.info? 4).map (fun i => (i.zero, i.size, i.bytes)) = some (some (.bool false), 1, 1) := by kernel_rfl
theorem hbool_made (n : Nat) : madeCells (Value.cells (.bool false)) (n * 1) = (bools (List.replicate n false)).toArray := by
  apply Array.toList_inj.1
  rcases Nat.eq_zero_or_pos n with rfl | h
  · simp [madeCells, bools]
  · apply List.ext_getElem (by simp [madeCells, Value.cells, bools])
    intro i h1 h2
    simp [madeCells, Value.cells, bools, Nat.mod_one]
theorem hbool_make (n : Nat) (hn : n ≤ 1000) : ∀ w : World, (Instr.makeSlice 63 (.int .i64 (n : Int)) (.int .i64 (n : Int))).run Try.prog w = .ok (.slice (some ⟨w.heap.size, 0, none⟩) n n) (w.alloc (.cells (bools (List.replicate n false)).toArray 4)) := by
  intro w
  obtain ⟨i, hi, hz, hs, hb⟩ := info_parts hbool_info
  have h := run_make w 63 4 i _ Try.underlying63 hi hz .i64 .i64 n n (by omega) (Int.le_refl _) (by rw [hb]; omega) (by omega)
  simp only [Int.toNat_natCast, hs] at h
  rw [hbool_made n] at h
  exact h

theorem nm_perm4 {α : Type} (a b c d : α) (l : List α) : (a :: b :: c :: d :: l).Perm (c :: a :: d :: b :: l) := by
  have h1 : (a :: b :: c :: d :: l).Perm (a :: c :: b :: d :: l) := (List.Perm.swap c b (d :: l)).cons a
  have h2 : (a :: c :: b :: d :: l).Perm (c :: a :: b :: d :: l) := List.Perm.swap c a (b :: d :: l)
  have h3 : (c :: a :: b :: d :: l).Perm (c :: a :: d :: b :: l) := ((List.Perm.swap d b l).cons a).cons c
  exact (h1.trans h2).trans h3
theorem nm_snoc {w X : World} {A5 A7 : Option Addr} {n c5 q c7 : Nat} {fs : List Val} {obs' : List Ob} {x1 x2 x3 x4 x5 x6 : Item}
    (h : Sep No w X (rowI 107 2 A5 n c5 (vals fs) :: x1 :: x2 :: x3 :: x4 :: x5 :: x6 :: rowI 119 1 A7 (q + 1) c7 (obs'.map Ob.val ++ [.slice A5 n c5]) :: obs'.map obI)) :
    Sep No w X (x3 :: x4 :: x5 :: x6 :: rowI 119 1 A7 (q + 1) c7 ((obs' ++ [(⟨A5, n, c5, fs⟩ : Ob)]).map Ob.val) :: (obs' ++ [(⟨A5, n, c5, fs⟩ : Ob)]).map obI) := by
  have h1 := (h.sub (l := rowI 107 2 A5 n c5 (vals fs) :: x3 :: x4 :: x5 :: x6 :: rowI 119 1 A7 (q + 1) c7 (obs'.map Ob.val ++ [.slice A5 n c5]) :: obs'.map obI) (.cons_cons _ (.cons _ (.cons _ (List.Sublist.refl _))))).perm (List.perm_append_comm (l₁ := [_]))
  rw [List.map_append, List.map_append]
  exact h1
theorem nm_fin {w X : World} {gr gm q c' : Nat} {A' : Option Addr} {regs : List Val} {obs' : List Ob} {gb : Nat} {x : Item} (h8 : regs.length = 8) (ho : obs'.length = q)
    (h : Sep No w X (x :: rowI 107 2 (some ⟨gr, 0, none⟩) 8 8 (vals regs) :: rowI 4 1 (some ⟨gb, 0, none⟩) q q (bools (List.replicate q false)) :: blkI gm 176 #[.slice (some ⟨gr, 0, none⟩) 8 8, .slice A' q c', .slice (some ⟨gb, 0, none⟩) q q] :: rowI 119 1 A' q c' (obs'.map Ob.val) :: obs'.map obI)) :
    Sep No w X [rmI gm ⟨gr, 8, regs, A', c', obs', some ⟨gb, 0, none⟩, q, List.replicate q false⟩] := by
  have h1 := (h.sub (List.sublist_cons_self _ _)).perm (nm_perm4 _ _ _ _ _)
  refine Sep.fold (l := rmL gm _) ?_
  unfold rmL
  dsimp only
  rw [h8, ho, List.length_replicate]
  exact h1

set_option maxRecDepth 100000 in
set_option maxHeartbeats 16000000 in
theorem newMem_any (w : World) (AO AR : Option Addr) (nO cO nR cR : Nat) (obs : List Ob) (roots : List Val) (gs : List (List Val)) (hgs : obs.map Ob.fields = gs) (hO : ObsRd w (fun _ => True) AO nO obs) (hR : Rd w (fun _ => True) 2 AR nR (vals roots)) (hnO : nO ≤ 500) (hnR : nR ≤ 8) (h4 : ∀ o ∈ obs, o.n ≤ 4) :
    Calls Try.prog 68 #[.agg #[.slice AO nO cO, .slice AR nR cR]] w fun e w' => ∃ Bm s, e = .returned (.pointer (some ⟨Bm, 0, none⟩)) ∧ absR s = ⟨padR roots nR, gs⟩ ∧ s.gone = List.replicate nO false ∧ Sep No w w' [rmI Bm s] := by
  have HRL := hide (show roots.length = nR by have := hR.1; rw [vals_length] at this; omega)
  have HGS := hide hgs
  have H4 := hide h4
  obtain ⟨g, hg⟩ : ∃ g, w.heap.size = g := ⟨_, rfl⟩
  have hl8 : (vals (zeroVs 8)).toArray.size = 8 * 2 := rfl
  have hlb : (bools (List.replicate nO false)).toArray.size = nO * 1 := by simp [bools]
  have HA := hide (show Sep No w ((((w.alloc (.cells #[.slice AO nO cO, .slice AR nR cR] 27)).alloc (.cells (vals (zeroVs 8)).toArray 107)).alloc (.cells (bools (List.replicate nO false)).toArray 4)).alloc (.cells #[.slice (some ⟨g + 1, 0, none⟩) 8 8, .slice none 0 0, .slice (some ⟨g + 1 + 1, 0, none⟩) nO nO] 176)).drew [blkI g 27 #[.slice AO nO cO, .slice AR nR cR], rowI 107 2 (some ⟨g + 1, 0, none⟩) 8 8 (vals (padR roots 0)), rowI 4 1 (some ⟨g + 1 + 1, 0, none⟩) nO nO (bools (List.replicate nO false)), blkI (g + 1 + 1 + 1) 176 #[.slice (some ⟨g + 1, 0, none⟩) 8 8, .slice none 0 0, .slice (some ⟨g + 1 + 1, 0, none⟩) nO nO], rowI 119 1 none 0 0 []] from by
    have h1 := (((Sep.nil No w).blkAt 27 #[.slice AO nO cO, .slice AR nR cR] hg).blkAt 107 (vals (zeroVs 8)).toArray (g := g + 1) (by simp [hg])).blkAt 4 (bools (List.replicate nO false)).toArray (g := g + 1 + 1) (by simp [hg])
    have h2 := h1.step 1 rfl (Chg.refl _ _) _ (hrow_of_blk (n := 8) (size := 2) (show Blk _ (g + 1) 107 _ from h1.get 1 rfl) hl8 (by unfold maxLen; omega)) (fun g' hg' => .inl (by
      have : g + 1 = g' := by simpa [rowI, Value.ownBlock] using hg'
      exact this.symm))
    have h3 := h2.step 2 rfl (Chg.refl _ _) _ (hrow_of_blk (n := nO) (size := 1) (show Blk _ (g + 1 + 1) 4 _ from h1.get 2 rfl) hlb (by unfold maxLen; omega)) (fun g' hg' => .inl (by
      have : g + 1 + 1 = g' := by simpa [rowI, Value.ownBlock] using hg'
      exact this.symm))
    exact ((h3.blkAt 176 #[.slice (some ⟨g + 1, 0, none⟩) 8 8, .slice none 0 0, .slice (some ⟨g + 1 + 1, 0, none⟩) nO nO] (g := g + 1 + 1 + 1) (by simp [hg])).nilRow 119 1).drew)
  have HB := hide (show Sep No w ((((w.alloc (.cells #[.slice AO nO cO, .slice AR nR cR] 27)).alloc (.cells (bools (List.replicate nO false)).toArray 4)).alloc (.cells (vals (zeroVs 8)).toArray 107)).alloc (.cells #[.slice (some ⟨g + 1 + 1, 0, none⟩) 8 8, .slice none 0 0, .slice (some ⟨g + 1, 0, none⟩) nO nO] 176)).drew [blkI g 27 #[.slice AO nO cO, .slice AR nR cR], rowI 107 2 (some ⟨g + 1 + 1, 0, none⟩) 8 8 (vals (padR roots 0)), rowI 4 1 (some ⟨g + 1, 0, none⟩) nO nO (bools (List.replicate nO false)), blkI (g + 1 + 1 + 1) 176 #[.slice (some ⟨g + 1 + 1, 0, none⟩) 8 8, .slice none 0 0, .slice (some ⟨g + 1, 0, none⟩) nO nO], rowI 119 1 none 0 0 []] from by
    have h1 := (((Sep.nil No w).blkAt 27 #[.slice AO nO cO, .slice AR nR cR] hg).blkAt 4 (bools (List.replicate nO false)).toArray (g := g + 1) (by simp [hg])).blkAt 107 (vals (zeroVs 8)).toArray (g := g + 1 + 1) (by simp [hg])
    have h2 := h1.step 2 rfl (Chg.refl _ _) _ (hrow_of_blk (n := 8) (size := 2) (show Blk _ (g + 1 + 1) 107 _ from h1.get 2 rfl) hl8 (by unfold maxLen; omega)) (fun g' hg' => .inl (by
      have : g + 1 + 1 = g' := by simpa [rowI, Value.ownBlock] using hg'
      exact this.symm))
    have h3 := h2.step 1 rfl (Chg.refl _ _) _ (hrow_of_blk (n := nO) (size := 1) (show Blk _ (g + 1) 4 _ from h1.get 1 rfl) hlb (by unfold maxLen; omega)) (fun g' hg' => .inl (by
      have : g + 1 = g' := by simpa [rowI, Value.ownBlock] using hg'
      exact this.symm))
    exact ((h3.perm (((List.Perm.swap _ _ _)).cons _)).blkAt 176 #[.slice (some ⟨g + 1 + 1, 0, none⟩) 8 8, .slice none 0 0, .slice (some ⟨g + 1, 0, none⟩) nO nO] (g := g + 1 + 1 + 1) (by simp [hg]) |>.nilRow 119 1).drew)
  clear hl8 hlb
  have hmk := hval_make8
  have hmb := hbool_make nO (by omega)
  clear hgs h4
  go_enter Try.func68, Try.ntmps68
  go_wp2_with fail
  go_region_law (fail)
  all_goals
    first
      | (obtain ⟨W, hW⟩ : ∃ X, ((((w.alloc (.cells #[.slice AO nO cO, .slice AR nR cR] 27)).alloc (.cells (vals (zeroVs 8)).toArray 107)).alloc (.cells (bools (List.replicate nO false)).toArray 4)).alloc (.cells #[.slice (some ⟨g + 1, 0, none⟩) 8 8, .slice none 0 0, .slice (some ⟨g + 1 + 1, 0, none⟩) nO nO] 176)).drew = X := ⟨_, rfl⟩
         (have hS := HA.out)
         rw [hW] at hS ⊢
         clear hW
         obtain ⟨gm, hgm⟩ : ∃ x, g + 1 + 1 + 1 = x := ⟨_, rfl⟩
         rw [hgm] at hS ⊢
         obtain ⟨gb, hgb⟩ : ∃ x, g + 1 + 1 = x := ⟨_, rfl⟩
         rw [hgb] at hS ⊢
         obtain ⟨gv, hgv⟩ : ∃ x, g + 1 = x := ⟨_, rfl⟩
         rw [hgv] at hS ⊢
         clear HA HB hmk hmb hg)
      | (obtain ⟨W, hW⟩ : ∃ X, ((((w.alloc (.cells #[.slice AO nO cO, .slice AR nR cR] 27)).alloc (.cells (bools (List.replicate nO false)).toArray 4)).alloc (.cells (vals (zeroVs 8)).toArray 107)).alloc (.cells #[.slice (some ⟨g + 1 + 1, 0, none⟩) 8 8, .slice none 0 0, .slice (some ⟨g + 1, 0, none⟩) nO nO] 176)).drew = X := ⟨_, rfl⟩
         (have hS := HB.out)
         rw [hW] at hS ⊢
         clear hW
         obtain ⟨gm, hgm⟩ : ∃ x, g + 1 + 1 + 1 = x := ⟨_, rfl⟩
         rw [hgm] at hS ⊢
         obtain ⟨gv, hgv⟩ : ∃ x, g + 1 + 1 = x := ⟨_, rfl⟩
         rw [hgv] at hS ⊢
         obtain ⟨gb, hgb⟩ : ∃ x, g + 1 = x := ⟨_, rfl⟩
         rw [hgb] at hS ⊢
         clear HA HB hmk hmb hg)
    have q1 : gv ≠ gm := by omega
    have q2 : g ≠ gv := by omega
    have q3 : gb ≠ gm := by omega
    have HS := hide hS
    clear hS hgm hgv hgb
    go_wp2_with fail
    go_loopw [4] (fun s wr => ∃ (k : Nat), k ≤ nR ∧ s = .int .i64 k ∧ Sep No w wr [blkI g 27 #[.slice AO nO cO, .slice AR nR cR], rowI 107 2 (some ⟨gv, 0, none⟩) 8 8 (vals (padR roots k)), rowI 4 1 (some ⟨gb, 0, none⟩) nO nO (bools (List.replicate nO false)), blkI gm 176 #[.slice (some ⟨gv, 0, none⟩) 8 8, .slice none 0 0, .slice (some ⟨gb, 0, none⟩) nO nO], rowI 119 1 none 0 0 []]) (fun s _ => nR - (intOf s).toNat)
    case atStart => exact ⟨0, by omega, rfl, HS.out⟩
    case round =>
      clear HS
      obtain ⟨k, hk, rfl, hS⟩ := hrel
      obtain ⟨x1, x2, x3, _⟩ := hS.rules 0 (g := g) (t := 27) rfl
      have x5 := (x1 0).trans (show _ = some (.slice AO nO cO) from rfl)
      have x6 := (x1 1).trans (show _ = some (.slice AR nR cR) from rfl)
      obtain ⟨y1, y2, y3, _⟩ := hS.rules 3 (g := gm) (t := 176) rfl
      have y6 := (y1 2).trans (show _ = some (.slice (some ⟨gb, 0, none⟩) nO nO) from rfl)
      by_cases hlt : k < nR
      · have hkl : k < roots.length := by rw [HRL.out]; exact hlt
        obtain ⟨ad, hA, _, had, hc3, hd3⟩ := (hR.below hS.below_).atN hlt
        obtain ⟨v0, v1⟩ := vals_at roots k hkl
        have e0 := hc3 _ v0
        have e1 := hd3 0 _ v1
        obtain ⟨L, hL⟩ : ∃ x : Nat, x = 8 := ⟨8, rfl⟩
        have y5 := (y1 0).trans (show _ = some (.slice (some ⟨gv, 0, none⟩) L L) from by rw [hL]; rfl)
        have z1 : k < L := by omega
        have hpl := padR_len roots k (by omega) (by omega)
        obtain ⟨r0, r1, r2, r3⟩ := hrow_val (show (rowI 107 2 (some ⟨gv, 0, none⟩) 8 8 (vals (padR roots k))).P wr from hS.get 1 rfl) k (by omega) (by omega)
        obtain ⟨pu, hpu⟩ : ∃ u, (padR roots k)[k] = u := ⟨_, rfl⟩
        rw [hpu] at r0 r1
        have h9 := hS.store2 1 (g := gv) rfl (k * 2) (.bool roots[k].1) (.int .i64 roots[k].2)
        rw [vals_set2, show (roots[k].1, roots[k].2) = roots[k] from rfl, padR_set roots k hkl (by rw [HRL.out]; exact hnR)] at h9
        have HS9 := hide h9
        have hmx : Try.prog.follows .mixedOrders = true := by kernel_rfl
        obtain ⟨u, hu⟩ : ∃ u, roots[k] = u := ⟨_, rfl⟩
        rw [hu] at e0 e1 HS9
        subst hA
        clear hpu
        clear hL hS h9 hc3 hd3 v0 v1 hu x1 y1 hpl
        go_wp2_with fail
        go_still_tail 10, hmx
        go_wp2_with fail
        go_roundw
        case rel => exact ⟨k + 1, by omega, by go_num, HS9.out.drew⟩
        case measure => simp [intOf]; omega
      · obtain rfl : k = nR := by omega
        have y5 := (y1 0).trans (show _ = some (.slice (some ⟨gv, 0, none⟩) 8 8) from rfl)
        have HS := hide hS
        clear hS x1 y1 hk
        go_wp2_with fail
        go_loopw [38] (fun i wr => ∃ (q : Nat) (A' : Option Addr) (c' : Nat) (obs' : List Ob), q ≤ nO ∧ i = .int .i64 q ∧ Hid (obs'.map Ob.fields = gs.take q) ∧
          Sep No w wr (blkI g 27 #[.slice AO nO cO, .slice AR k cR] :: rowI 107 2 (some ⟨gv, 0, none⟩) 8 8 (vals (padR roots k)) :: rowI 4 1 (some ⟨gb, 0, none⟩) nO nO (bools (List.replicate nO false)) :: blkI gm 176 #[.slice (some ⟨gv, 0, none⟩) 8 8, .slice A' q c', .slice (some ⟨gb, 0, none⟩) nO nO] :: rowI 119 1 A' q c' (obs'.map Ob.val) :: obs'.map obI)) (fun i _ => nO - (intOf i).toNat)
        case atStart => exact ⟨0, none, 0, [], by omega, rfl, by simp [Hid], HS.out⟩
        case round =>
          clear HS x2 x3 x5 x6 y2 y3 y5 y6
          obtain ⟨q, A', c', obs', hq, rfl, HO, hS⟩ := hrel
          by_cases hlq : q < nO
          · obtain ⟨ad2, hA2, _, had2, hc2⟩ := (hO.below hS.below_).row.at_ hlq
            have hxl : q < obs.length := by rw [hO.len]; exact hlq
            have e1 := hc2 obs[q].val (by simp [List.getElem?_eq_getElem hxl])
            have hEach := hO.each _ (List.getElem_mem hxl)
            have hFl := hO.flen (List.getElem_mem hxl)
            have ho4 := H4.out _ (List.getElem_mem hxl)
            have hgt : gs.take (q + 1) = gs.take q ++ [obs[q].fields] := by
              rw [← HGS.out, ← List.map_take, ← List.map_take, List.take_succ_eq_append_getElem hxl, List.map_append]; rfl
            have HGT := hide hgt
            obtain ⟨o, ho⟩ : ∃ o, obs[q] = o := ⟨_, rfl⟩
            rw [ho] at e1 hEach hFl ho4 HGT
            unfold Ob.val at e1
            obtain ⟨b6, hb6⟩ : ∃ x, wr.heap.size = x := ⟨_, rfl⟩
            have hS1 := ((((hS.blkAt 119 #[.slice o.A o.n o.c] hb6).blkAt 119 #[.slice none 0 0] (g := b6 + 1) (by simp [hb6])).perm List.perm_append_comm).perm (l := blkI (b6 + 1) 119 #[.slice none 0 0] :: blkI b6 119 #[.slice o.A o.n o.c] :: _) (List.Perm.append_left [_] List.perm_append_comm)).nilRow0 107 2
            have HS1 := hide hS1
            subst hA2
            clear hc2 ho hgt hS1 hS had2
            obtain ⟨oA, on, oc, ofs⟩ := o
            dsimp only at e1 hEach hFl ho4 HGT HS1
            go_wp2_with fail
            go_loopw [46] (fun s wr2 => ∃ (j : Nat) (A5 : Option Addr) (c5 : Nat), j ≤ on ∧ s = .int .i64 j ∧ Sep No w wr2 (rowI 107 2 A5 j c5 (vals (ofs.take j)) :: blkI (b6 + 1) 119 #[.slice A5 j c5] :: blkI b6 119 #[.slice oA on oc] :: blkI g 27 #[.slice (some ad2) nO cO, .slice AR k cR] :: rowI 107 2 (some ⟨gv, 0, none⟩) 8 8 (vals (padR roots k)) :: rowI 4 1 (some ⟨gb, 0, none⟩) nO nO (bools (List.replicate nO false)) :: blkI gm 176 #[.slice (some ⟨gv, 0, none⟩) 8 8, .slice A' q c', .slice (some ⟨gb, 0, none⟩) nO nO] :: rowI 119 1 A' q c' (obs'.map Ob.val) :: obs'.map obI)) (fun s _ => on - (intOf s).toNat)
            case atStart => exact ⟨0, none, 0, by omega, rfl, HS1.out⟩
            case round =>
              clear HS1
              obtain ⟨j, A5, c5, hj, rfl, hS⟩ := hrel
              obtain ⟨x1, x2, x3, _⟩ := hS.rules 1 (g := b6 + 1) (t := 119) rfl
              have x5 := (x1 0).trans (show _ = some (.slice A5 j c5) from rfl)
              by_cases hlj : j < on
              · have hjl : j < ofs.length := by omega
                obtain ⟨ad3, hA3, _, had3, hc3, hd3⟩ := (hEach.below hS.below_).atN hlj
                obtain ⟨v0, v1⟩ := vals_at ofs j hjl
                have e0 := hc3 _ v0
                have e2 := hd3 0 _ v1
                have hT := List.take_succ_eq_append_getElem hjl
                obtain ⟨u, hu⟩ : ∃ u, ofs[j] = u := ⟨_, rfl⟩
                rw [hu] at e0 e2 hT
                have HT := hide hT
                obtain ⟨ub, um⟩ := u
                dsimp only at e0 e2
                obtain ⟨b9, hb9⟩ : ∃ x, wr.heap.size = x := ⟨_, rfl⟩
                have hS2 := hS.blkAt 107 #[.bool ub, .int .i64 um] hb9
                have x6 := (World.cell?_alloc_lt _ (.cells #[.bool ub, .int .i64 um] 107) _ x3).trans x5
                subst hA3
                clear hc3 hd3 v0 v1 hu hT had3 hS x1
                go_wp2_with (first
                  | (at_builtin
                     refine wpList_app1 (cs := #[.bool ub, .int .i64 um]) rfl (.tmp 51) (.tmp 53) 25 rfl (F := No) (W := w) sVal (items := _ :: _) hS2 0 (n := j) rfl rfl rfl (by simp [hb9]) rfl rfl (by omega) ?_
                     intro A6 c6 w6 hS6 hC6
                     obtain ⟨y1, y2, y3, _⟩ := hS6.rules 1 (g := b6 + 1) (t := 119) rfl
                     (have y5 := (y1 0).trans (show _ = some (.slice A5 j c5) from rfl))
                     (have HS7 := hide (hS6.set_ 1 (g := b6 + 1) (t := 119) rfl 0 (.slice A6 (j + 1) c6)))
                     clear y1 hS6 hC6 hS2))
                go_roundw
                case rel => exact ⟨j + 1, A6, c6, by omega, by go_num, by
                  have h7 := HS7.out.sub (List.sublist_append_left (_ :: _ :: _ :: _ :: _ :: _ :: _ :: _ :: obs'.map obI) _)
                  rw [HT.out, vals_app]
                  exact h7⟩
                case measure => simp [intOf]; omega
              · obtain rfl : j = on := by omega
                rw [List.take_of_length_le (by omega)] at hS
                obtain ⟨y1, y2, y3, _⟩ := hS.rules 6 (g := gm) (t := 176) rfl
                have y5 := (y1 1).trans (show _ = some (.slice A' q c') from rfl)
                have HS := hide hS
                clear x1 y1 hS
                go_wp2_with fail
                go_region_law (first
                  | (refine step_app1d (cs := #[.slice A5 j c5]) rfl (.tmp 61) (.tmp 63) 24 rfl (F := No) (W := w) sObj (items := _ :: _ :: _ :: _ :: _ :: _ :: _ :: _ :: _) HS.out 7 (n := q) rfl rfl rfl (by simp) rfl rfl (by omega) ?_
                     intro A7 c7 w7 hS7 hC7
                     obtain ⟨z1, z2, z3, z4⟩ := hS7.rules 6 (g := gm) (t := 176) rfl
                     (have z5 := (z1 1).trans (show _ = some (.slice A' q c') from rfl))
                     clear z1 z4))
                all_goals
                  have HS8 := hide (nm_snoc (hS7.set_ 6 (g := gm) (t := 176) rfl 1 (.slice A7 (q + 1) c7)))
                  clear hS7 hC7
                  go_wp2_with fail
                  go_roundw
                  case rel => exact ⟨q + 1, A7, c7, obs' ++ [(⟨A5, j, c5, ofs⟩ : Ob)], by omega, by go_num, by
                    show (obs' ++ [(⟨A5, j, c5, ofs⟩ : Ob)]).map Ob.fields = gs.take (q + 1)
                    rw [List.map_append, HO.out, HGT.out]; rfl, HS8.out⟩
                  case measure => simp [intOf]; omega
          · obtain rfl : q = nO := by omega
            go_wp2_with fail
            go_ret
            refine ⟨gm, ⟨gv, 8, padR roots k, A', c', obs', some ⟨gb, 0, none⟩, q, List.replicate q false⟩, rfl, ?_, rfl, ?_⟩
            · unfold absR
              dsimp only
              have h := HO.out
              rw [h, ← HGS.out, List.take_of_length_le (by rw [List.length_map, hO.len]; omega)]
            · have hol := congrArg List.length HO.out
              rw [List.length_map, List.length_take, ← HGS.out, List.length_map, hO.len, Nat.min_self] at hol
              exact nm_fin (padR_len roots k (by rw [HRL.out]; omega) hnR) hol hS
end Go.Proofs.Ytjphckfbbiehdaa

namespace Go.Proofs.Ytjphckfbbiehdaa
open Go.RowKit

theorem run_copy_rowN {P : Program} (w : World) (dT sT ty elem : TypeId) (z n g o dLen dCap : Nat) (a : Addr) (sLen sCap : Nat) (cur : Array Value) (t : TypeId) (cs : List Value)
    (hu : P.underlying dT = some (.slice elem)) (hs : (P.info? elem).map (·.size) = some z)
    (hg : w.heap[g]? = some (.cells cur t (0, 0))) (hm : Nat.min sLen dLen = n) (hn : cs.length = n * z)
    (hsrc : ∀ j v, cs[j]? = some v → w.cell? (a.add j) = some v) (hfit : o + cs.length ≤ cur.size) (h1 : ∀ v ∈ cs, v.oneCell' = true) :
    (Builtin.copy_ #[dT, sT] ty #[.slice (some ⟨g, o, none⟩) dLen dCap, .slice (some a) sLen sCap]).run P w =
      .ok (goInt n) (w.setRow g (cur.toList.take o ++ cs ++ cur.toList.drop (o + cs.length)).toArray) := by
  have hl := run_loadCells_list (P := P) w a cs hsrc
  have hst := run_storeCells_at P g o t cs 0 cur w hg (by simpa using hfit) h1
  cases hq : P.info? elem with
  | none => simp [hq] at hs
  | some i =>
    have hi : i.size = z := by simpa [hq] using hs
    rw [hn] at hl
    simp [Builtin.copy_, run_underlying hu, Builtin.lenOf, Builtin.firstCells, sizeOf, typeInfo, hq, hi, hm, hl, hst]
theorem run_copy_noneN {P : Program} (w : World) (dT sT ty elem : TypeId) (z dLen dCap sCap : Nat) (dp sp : Option Addr)
    (hu : P.underlying dT = some (.slice elem)) (hs : (P.info? elem).map (·.size) = some z) :
    (Builtin.copy_ #[dT, sT] ty #[.slice dp dLen dCap, .slice sp 0 sCap]).run P w = .ok (goInt 0) w := by
  cases hq : P.info? elem with
  | none => simp [hq] at hs
  | some i =>
    have hi : i.size = z := by simpa [hq] using hs
    cases dp <;> cases sp <;> simp [Builtin.copy_, run_underlying hu, Builtin.lenOf, Builtin.firstCells, sizeOf, typeInfo, hq, hi, storeCells, loadCells, loadCellsFrom]
theorem vSize : (Try.prog.info? 107).map (·.size) = some 2 := by kernel_rfl
theorem vals_rep (n : Nat) (hn : n ≤ 8) : (vals (zeroVs 8)).drop (n * 2) = vals (List.replicate (8 - n) (false, 0)) := by
  rcases (show n = 0 ∨ n = 1 ∨ n = 2 ∨ n = 3 ∨ n = 4 ∨ n = 5 ∨ n = 6 ∨ n = 7 ∨ n = 8 from by omega) with rfl | rfl | rfl | rfl | rfl | rfl | rfl | rfl | rfl <;> rfl

end Go.Proofs.Ytjphckfbbiehdaa
