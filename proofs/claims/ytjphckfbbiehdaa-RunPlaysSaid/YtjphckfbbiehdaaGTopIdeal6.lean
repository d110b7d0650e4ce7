/- A memory with so many words: a deed; bounds of a script. A memory with so many words: a script that may be. What a memory told, beside what the memory without end tells. -/
import Derived.Test.YtjphckfbbiehdaaGTopIdeal5
import Derived.Test.YtjphckfbbiehdaaGIdealPlays18
import Derived.Test.YtjphckfbbiehdaaGTriPlays7
import Derived.Test.YtjphckfbbiehdaaGIdealPlays19
set_option linter.unusedSimpArgs false
set_option linter.unusedVariables false
namespace Go.Proofs.Ytjphckfbbiehdaa
open Go.RowKit

theorem rnDo_eq (c W : Int) (Bm Be : Nat) (d : DoV) (a : RnA) : (rnKm c W Bm Be).step d a = rnDo c W d a := rfl
theorem rundo_any {c W : Int} (hc : c = 1 ∨ c = 2 ∨ c = 3) (hW : W ≤ 256) {Bm Be : Nat} {t : RnT} {F : Nat → Prop} {W0 w : World} {L : List Item} (h : Sep F W0 w ((rnKm c W Bm Be).item t :: L)) (ok : RnOk W t.a) (hn : t.a.objs.length < 500) (h0 : 0 ≤ t.a.times) (h1 : t.a.times < 500) (d : DoV) :
    Calls Try.prog 43 #[.pointer (some ⟨Bm, 0, none⟩), .agg d.cells] w fun e w' => ∃ (oc : Int) (orf : Bool) (on : Int) (t' : RnT), e = .returned (.agg #[.int .i64 oc, .bool orf, .int .i64 on]) ∧ rnDo c W d t.a = (⟨oc, orf, on⟩, t'.a) ∧ Sep F W0 w' ((rnKm c W Bm Be).item t' :: L) := by
  refine (kdo_any (rnKm c W Bm Be) (rnKm_ok hc hW Bm Be) (s := t) (h.get 0 rfl) ⟨ok, hn, h0, h1⟩ d).mono ?_
  rintro e w' ⟨rfl, t', hab, hS⟩
  exact ⟨(rnDo c W d t.a).1.code, (rnDo c W d t.a).1.rf, (rnDo c W d t.a).1.n, t', rfl, Prod.ext rfl (show (rnDo c W d t.a).2 = t'.a from hab.symm), h.call 0 rfl hS⟩
theorem runwork_any {c W : Int} (hc : c = 1 ∨ c = 2 ∨ c = 3) (hW : W ≤ 256) {Bm Be : Nat} {t : RnT} {F : Nat → Prop} {W0 w : World} {L : List Item} (h : Sep F W0 w ((rnKm c W Bm Be).item t :: L)) (ok : RnOk W t.a) (hn : t.a.objs.length < 500) (h0 : 0 ≤ t.a.times) (h1 : t.a.times < 500) :
    Calls Try.prog 42 #[.pointer (some ⟨Be, 0, none⟩)] w fun e w' => (∃ u, e = .returned u) ∧ ∃ t' : RnT, t'.a = t.a.clear c ∧ Sep F W0 w' ((rnKm c W Bm Be).item t' :: L) := by
  have hl := rn_len t
  refine (rclear_any (rkm_flat (h.get 0 rfl)) ok hc hW (by omega) h0 (by have h2 : t.a.times = t.times := rfl; omega)).mono ?_
  rintro e w' ⟨he, t', e1, hS⟩
  exact ⟨he, t', e1, h.call 0 rfl (rkm_fold hS)⟩
/-! ### Bounds. -/
structure RnB (n : Nat) (a b : RnA) : Prop where
  l0 : a.objs.length ≤ b.objs.length
  l1 : b.objs.length ≤ a.objs.length + n
  t0 : a.times ≤ b.times
  t1 : b.times ≤ a.times + n
theorem RnB.refl (n : Nat) (a : RnA) : RnB n a a := ⟨Nat.le_refl _, by omega, Int.le_refl _, by omega⟩
theorem rnStep_b (c W : Int) (d : DoV) (a : RnA) : RnB 1 a (rnStep c W d a).2 := by
  unfold rnStep
  split
  · exact ⟨by rw [a.clear_len]; omega, by rw [a.clear_len]; omega, by rw [a.clear_times]; omega, by rw [a.clear_times]; omega⟩
  · unfold rnDo
    split
    · exact RnB.refl _ _
    · unfold rnKst
      split
      · obtain ⟨l1, l2, l3, l4⟩ := rnNew_len c W a d.n.toNat
        split
        · exact ⟨l2, l1, l3, l4⟩
        · exact ⟨l2, l1, l3, l4⟩
      · split
        · exact ⟨Nat.le_refl _, Nat.le_succ _, Int.le_refl _, by show a.times ≤ _; omega⟩
        · split
          · exact ⟨Nat.le_refl _, Nat.le_succ _, Int.le_refl _, by show a.times ≤ _; omega⟩
          · split
            · split
              · exact RnB.refl _ _
              · refine ⟨?_, ?_, Int.le_refl _, by show a.times ≤ _; omega⟩
                · show _ ≤ (a.objs.set _ _).length; rw [List.length_set]; exact Nat.le_refl _
                · show (a.objs.set _ _).length ≤ _; rw [List.length_set]; omega
            · split
              · split
                · exact RnB.refl _ _
                · exact ⟨Nat.le_refl _, Nat.le_succ _, Int.le_refl _, by show a.times ≤ _; omega⟩
              · split
                · exact RnB.refl _ _
                · exact RnB.refl _ _
theorem rnRun_b (c W : Int) (ds : List DoV) : RnB ds.length rn0 (rnRun c W ds rn0).2 := by
  have key : ∀ r : List DoV, RnB r.reverse.length rn0 (rnRun c W r.reverse rn0).2 := by
    intro r
    induction r with
    | nil => exact RnB.refl _ _
    | cons d r ih =>
      rw [List.reverse_cons, rnRun_snoc, List.length_append]
      obtain ⟨a1, a2, a3, a4⟩ := ih
      obtain ⟨b1, b2, b3, b4⟩ := rnStep_b c W d (rnRun c W r.reverse rn0).2
      rw [List.length_singleton]
      show RnB (r.reverse.length + 1) rn0 (rnStep c W d (rnRun c W r.reverse rn0).2).2
      exact ⟨by omega, by omega, by omega, by omega⟩
  have h := key ds.reverse
  rwa [List.reverse_reverse] at h
/-- At every step. -/
theorem rn_step_at (c : Int) {W : Int} (hW : 0 ≤ W) (ds : List DoV) (hd : ds.length ≤ 400) (k : Nat) (hk : k ≤ ds.length) : RnOk W (rnRun c W (ds.take k) rn0).2 ∧ (rnRun c W (ds.take k) rn0).2.objs.length ≤ 400 ∧ 0 ≤ (rnRun c W (ds.take k) rn0).2.times ∧ (rnRun c W (ds.take k) rn0).2.times ≤ 400 := by
  have h1 := (rn_told c hW (ds.take k)).1
  obtain ⟨b1, b2, b3, b4⟩ := rnRun_b c W (ds.take k)
  have hl : (ds.take k).length = k := by rw [List.length_take]; omega
  rw [hl] at b2 b4
  have e1 : rn0.objs.length = 0 := rfl
  have e2 : rn0.times = 0 := rfl
  exact ⟨h1, by omega, by omega, by omega⟩
theorem rnRun_at (c W : Int) (ds : List DoV) (k : Nat) (hk : k < ds.length) : rnRun c W (ds.take (k + 1)) rn0 = ((rnRun c W (ds.take k) rn0).1 ++ [(rnStep c W ds[k] (rnRun c W (ds.take k) rn0).2).1], (rnStep c W ds[k] (rnRun c W (ds.take k) rn0).2).2) := by
  rw [List.take_succ_eq_append_getElem hk, rnRun_snoc]
def runErr (c W : Int) (nd : Nat) : Int := if c < 1 ∨ 3 < c then 5 else if W < 1 ∨ 256 < W then 3 else if 100 < nd then 1 else 0

set_option maxRecDepth 100000 in
set_option maxHeartbeats 8000000 in
theorem runPlay_no (w : World) (c W : Int) (Ad : Option Addr) (nd cd : Nat) (hz : runErr c W nd ≠ 0) :
    Calls Try.prog 14 #[.int .i64 c, .int .i64 W, .slice Ad nd cd] w fun e w' => e = .returned (.tuple #[.agg #[.slice none 0 0, .slice none 0 0, .slice none 0 0, .int .i64 0], .int .i64 (runErr c W nd)]) ∧ Below w.heap.size w w' := by
  obtain ⟨g, hg⟩ : ∃ g, w.heap.size = g := ⟨_, rfl⟩
  have hS0 := (Sep.nil No w).blkAt 29 #[.slice none 0 0, .slice none 0 0, .slice none 0 0, .int .i64 0] hg
  obtain ⟨a1, a2, a3, a4⟩ := hS0.rules 0 (g := g) (t := 29) rfl
  have a5 := (a1 0).trans (show _ = some (.slice none 0 0) from rfl)
  have HFIN := hide hS0.below_
  clear hS0 a5
  unfold runErr at hz ⊢
  by_cases h1 : c < 1 ∨ 3 < c
  · rw [if_pos h1]
    by_cases h2 : c < 1
    · have t1 : decide (c < 1) = true := by simp [h2]
      clear hz h1 h2 a4
      go_enter Try.func14, Try.ntmps14
      go_wp2_with fail
      refine bodyPost_ret (v := .tuple #[.agg #[.slice none 0 0, .slice none 0 0, .slice none 0 0, .int .i64 0], .int .i64 5]) (by simp [results, Try.results14, go_sem, a1]) rfl ⟨rfl, HFIN.out⟩
    · have t1 : decide (c < 1) = false := by simp only [h2, decide_false]
      have t2 : decide (3 < c) = true := by simp; omega
      clear hz h1 h2 a4
      go_enter Try.func14, Try.ntmps14
      go_wp2_with fail
      refine bodyPost_ret (v := .tuple #[.agg #[.slice none 0 0, .slice none 0 0, .slice none 0 0, .int .i64 0], .int .i64 5]) (by simp [results, Try.results14, go_sem, a1]) rfl ⟨rfl, HFIN.out⟩
  · rw [if_neg h1] at hz ⊢
    have t1 : decide (c < 1) = false := by simp; omega
    have t2 : decide (3 < c) = false := by simp; omega
    by_cases h2 : W < 1 ∨ 256 < W
    · rw [if_pos h2]
      by_cases h3 : W < 1
      · have t3 : decide (W < 1) = true := by simp [h3]
        clear hz h1 h2 h3 a4
        go_enter Try.func14, Try.ntmps14
        go_wp2_with fail
        refine bodyPost_ret (v := .tuple #[.agg #[.slice none 0 0, .slice none 0 0, .slice none 0 0, .int .i64 0], .int .i64 3]) (by simp [results, Try.results14, go_sem, a1]) rfl ⟨rfl, HFIN.out⟩
      · have t3 : decide (W < 1) = false := by simp only [h3, decide_false]
        have t4 : decide (256 < W) = true := by simp; omega
        clear hz h1 h2 h3 a4
        go_enter Try.func14, Try.ntmps14
        go_wp2_with fail
        refine bodyPost_ret (v := .tuple #[.agg #[.slice none 0 0, .slice none 0 0, .slice none 0 0, .int .i64 0], .int .i64 3]) (by simp [results, Try.results14, go_sem, a1]) rfl ⟨rfl, HFIN.out⟩
    · rw [if_neg h2] at hz ⊢
      have t3 : decide (W < 1) = false := by simp; omega
      have t4 : decide (256 < W) = false := by simp; omega
      have h5 : 100 < nd := by
        rcases Nat.lt_or_ge 100 nd with h | h
        · exact h
        · rw [if_neg (by omega)] at hz; exact absurd rfl hz
      rw [if_pos h5]
      have t5 : decide ((100 : Int) < (nd : Int)) = true := by simp; omega
      have t6 : decide (100 < nd) = true := by simp; omega
      clear hz h1 h2 h5 a4
      go_enter Try.func14, Try.ntmps14
      go_wp2_with fail
      refine bodyPost_ret (v := .tuple #[.agg #[.slice none 0 0, .slice none 0 0, .slice none 0 0, .int .i64 0], .int .i64 1]) (by simp [results, Try.results14, go_sem, a1]) rfl ⟨rfl, HFIN.out⟩
end Go.Proofs.Ytjphckfbbiehdaa

namespace Go.Proofs.Ytjphckfbbiehdaa
open Go.RowKit

theorem rn_sel {c W : Int} {Bm Be : Nat} {t : RnT} {X : World} {q0 q1 q2 q3 q4 q5 q6 q7 : Val} (hP : ((rnKm c W Bm Be).item t).P X) (hq : t.regs = [q0, q1, q2, q3, q4, q5, q6, q7]) : X.cell? ⟨Be, 0, none⟩ = some (.slice t.oj.As t.oj.ps.length t.oj.c) ∧ X.cell? ⟨Be, 5, none⟩ = some (.int .i64 t.times) ∧ X.cell? ⟨Bm, 0, none⟩ = some (.bool q0.1) ∧ X.cell? ⟨Bm, 1, none⟩ = some (.int .i64 q0.2) ∧ X.cell? ⟨Bm, 2, none⟩ = some (.bool q1.1) ∧ X.cell? ⟨Bm, 3, none⟩ = some (.int .i64 q1.2) ∧ X.cell? ⟨Bm, 4, none⟩ = some (.bool q2.1) ∧ X.cell? ⟨Bm, 5, none⟩ = some (.int .i64 q2.2) ∧ X.cell? ⟨Bm, 6, none⟩ = some (.bool q3.1) ∧ X.cell? ⟨Bm, 7, none⟩ = some (.int .i64 q3.2) ∧ X.cell? ⟨Bm, 8, none⟩ = some (.bool q4.1) ∧ X.cell? ⟨Bm, 9, none⟩ = some (.int .i64 q4.2) ∧ X.cell? ⟨Bm, 10, none⟩ = some (.bool q5.1) ∧ X.cell? ⟨Bm, 11, none⟩ = some (.int .i64 q5.2) ∧ X.cell? ⟨Bm, 12, none⟩ = some (.bool q6.1) ∧ X.cell? ⟨Bm, 13, none⟩ = some (.int .i64 q6.2) ∧ X.cell? ⟨Bm, 14, none⟩ = some (.bool q7.1) ∧ X.cell? ⟨Bm, 15, none⟩ = some (.int .i64 q7.2) := by
  have hS := rkm_flat hP
  obtain ⟨k1, _, _, _, _, k6, _, _⟩ := rn_cells (pre := []) hS
  obtain ⟨c1, _, _, _⟩ := hS.rules 0 (g := Bm) (t := 113) (cs := mcCells t.regs (.iface 98 (.pointer (some ⟨Be, 0, none⟩)))) rfl
  rw [hq] at c1
  exact ⟨k1, k6, (c1 0).trans rfl, (c1 1).trans rfl, (c1 2).trans rfl, (c1 3).trans rfl, (c1 4).trans rfl, (c1 5).trans rfl, (c1 6).trans rfl, (c1 7).trans rfl, (c1 8).trans rfl, (c1 9).trans rfl, (c1 10).trans rfl, (c1 11).trans rfl, (c1 12).trans rfl, (c1 13).trans rfl, (c1 14).trans rfl, (c1 15).trans rfl⟩

def rnT0 (b : Nat) : RnT := ⟨List.replicate 8 (false, 0), ⟨none, 0, []⟩, b, [], 0⟩
theorem row_cap {w : World} {e size n c : Nat} {A : Option Addr} {xs : List Value} (h : (rowI e size A n c xs).P w) : n ≤ c ∧ c ≤ maxLen := by
  have h2 := (show w.ownsRow 0 e size (.slice A n c) n xs from h).2
  rcases h2 with ⟨hv, _⟩ | ⟨_, _, _, hv, _, _, h3, h4, _⟩
  · injection hv with _ h3 h4; omega
  · injection hv with _ h5 h6; omega
set_option maxRecDepth 100000 in
set_option maxHeartbeats 32000000 in
theorem runPlay_ok (w : World) (c W : Int) (Ad : Option Addr) (nd cd : Nat) (ds : List DoV) (hz : runErr c W nd = 0) (hD : Rd w (fun _ => True) 5 Ad nd (dosV ds)) :
    Calls Try.prog 14 #[.int .i64 c, .int .i64 W, .slice Ad nd cd] w fun e w' => ∃ A c' B1 n1 c1 B2 n2 c2, e = .returned (.tuple #[.agg #[.slice A nd c', .slice B1 n1 c1, .slice B2 n2 c2, .int .i64 (rnRun c W ds rn0).2.times], .int .i64 0]) ∧ Below w.heap.size w w' ∧ Rd w' (fun g => w.heap.size ≤ g) 3 A nd (outsV (rnRun c W ds rn0).1) ∧ GraphRd w' (fun g => w.heap.size ≤ g) (.agg #[.slice B1 n1 c1, .slice B2 n2 c2]) (renumF (rnRun c W ds rn0).2.gs (rnRun c W ds rn0).2.lives) ((rnRun c W ds rn0).2.regs.map (turnL (rnRun c W ds rn0).2.lives)) ∧ nd ≤ c' ∧ c' ≤ maxLen := by
  obtain ⟨hc1, hW1, hnd⟩ : ¬ (c < 1 ∨ 3 < c) ∧ ¬ (W < 1 ∨ 256 < W) ∧ nd ≤ 100 := by
    unfold runErr at hz
    split at hz
    · omega
    · split at hz
      · omega
      · split at hz
        · omega
        · exact ⟨by omega, by omega, by omega⟩
  have hc : c = 1 ∨ c = 2 ∨ c = 3 := by omega
  have hW : W ≤ 256 := by omega
  have hW0 : 0 ≤ W := by omega
  have t1 : decide (c < 1) = false := by simp; omega
  have t2 : decide (3 < c) = false := by simp; omega
  have t3 : decide (W < 1) = false := by simp; omega
  have t4 : decide (256 < W) = false := by simp; omega
  have t5 : decide ((100 : Int) < (nd : Int)) = false := by simp; omega
  have t6 : decide (100 < nd) = false := by simp; omega
  have HDL := hide (show ds.length = nd by have := hD.1; rw [dosV_length] at this; omega)
  have HAT := hide (fun k (hk : k ≤ ds.length) => rn_step_at c hW0 ds (by have := HDL.out; omega) k hk)
  have HC := hide hc
  have HW := hide hW
  obtain ⟨g, hg⟩ : ∃ g, w.heap.size = g := ⟨_, rfl⟩
  clear hz hc1 hW1 hc hW hW0
  have hmm := @run_makeMap Try.prog
  go_enter Try.func14, Try.ntmps14
  go_wp2_with fail
  have hS0 := ((((((Sep.nil No w).blkAt 29 #[.slice none 0 0, .slice none 0 0, .slice none 0 0, .int .i64 0] hg).atNew (rnT0 (g + 1)).a.at_ (g := g + 1) (by simp [hg])).blkAt 104 #[.slice none 0 0, .pointer (some ⟨g + 1 + 1 + 1, 0, none⟩), .map (some (g + 1)), .int .i64 c, .int .i64 W, .int .i64 0] (g := g + 1 + 1) (by simp [hg])).blkAt 113 #[.bool false, .int .i64 0, .bool false, .int .i64 0, .bool false, .int .i64 0, .bool false, .int .i64 0, .bool false, .int .i64 0, .bool false, .int .i64 0, .bool false, .int .i64 0, .bool false, .int .i64 0, .iface 98 (.pointer (some ⟨g + 1 + 1, 0, none⟩))] (g := g + 1 + 1 + 1) (by simp [hg])).blkAt 29 #[.slice none 0 0, .slice none 0 0, .slice none 0 0, .int .i64 0] (g := g + 1 + 1 + 1 + 1) (by simp [hg])).nilRow 170 1
  have hS1 := hS0.nilRow 41 3
  have hS2 := (hS1.perm (((show ([0, 1, 2, 3, 4, 5, 6] : List Nat).Perm [3, 2, 1, 5, 4, 6, 0] from by decide).map (fun i => ([blkI g 29 #[.slice none 0 0, .slice none 0 0, .slice none 0 0, .int .i64 0], atI (g + 1) 0 [] (rnT0 (g + 1)).a.at_, blkI (g + 1 + 1) 104 #[.slice none 0 0, .pointer (some ⟨g + 1 + 1 + 1, 0, none⟩), .map (some (g + 1)), .int .i64 c, .int .i64 W, .int .i64 0], blkI (g + 1 + 1 + 1) 113 #[.bool false, .int .i64 0, .bool false, .int .i64 0, .bool false, .int .i64 0, .bool false, .int .i64 0, .bool false, .int .i64 0, .bool false, .int .i64 0, .bool false, .int .i64 0, .bool false, .int .i64 0, .iface 98 (.pointer (some ⟨g + 1 + 1, 0, none⟩))], blkI (g + 1 + 1 + 1 + 1) 29 #[.slice none 0 0, .slice none 0 0, .slice none 0 0, .int .i64 0], rowI 170 1 none 0 0 [], rowI 41 3 none 0 0 []] : List Item).getD i (allI [])))))
  have hS3 : Sep No w _ (rnK (g + 1 + 1) (g + 1 + 1 + 1) c W (rnT0 (g + 1)) ++ [blkI (g + 1 + 1 + 1 + 1) 29 #[.slice none 0 0, .slice none 0 0, .slice none 0 0, .int .i64 0], rowI 41 3 none 0 0 [], blkI g 29 #[.slice none 0 0, .slice none 0 0, .slice none 0 0, .int .i64 0]]) := hS2
  have HS3 := hide (show Sep No w _ ((rnKm c W (g + 1 + 1 + 1) (g + 1 + 1)).item (rnT0 (g + 1)) :: [blkI (g + 1 + 1 + 1 + 1) 29 #[.slice none 0 0, .slice none 0 0, .slice none 0 0, .int .i64 0], rowI 41 3 none 0 0 [], blkI g 29 #[.slice none 0 0, .slice none 0 0, .slice none 0 0, .int .i64 0]]) from hS3.join)
  clear hS0 hS1 hS2 hS3
  generalize ht0 : rnT0 (g + 1) = t0 at HS3
  have HT0 := hide (show t0.a = (rnRun c W (ds.take 0) rn0).2 from by rw [← ht0]; rfl)
  clear ht0
  obtain ⟨Be, hBe⟩ : ∃ x, g + 1 + 1 = x := ⟨_, rfl⟩
  rw [hBe] at HS3 ⊢
  obtain ⟨Bm, hBm⟩ : ∃ x, Be + 1 = x := ⟨_, rfl⟩
  rw [hBm] at HS3 ⊢
  obtain ⟨gO, hgO⟩ : ∃ x, Bm + 1 = x := ⟨_, rfl⟩
  rw [hgO] at HS3 ⊢
  have HNE := hide (show g < Be ∧ Be < Bm ∧ Bm < gO ∧ w.heap.size = g from by omega)
  clear hBe hBm hgO hg hmm
  go_loopw [49] (fun i wr => ∃ (k : Nat) (A : Option Addr) (c' : Nat) (t : RnT), k ≤ nd ∧ i = .int .i64 k ∧ Hid (t.a = (rnRun c W (ds.take k) rn0).2) ∧
    Sep No w wr ((rnKm c W Bm Be).item t :: [blkI gO 29 #[.slice A k c', .slice none 0 0, .slice none 0 0, .int .i64 0], rowI 41 3 A k c' (outsV (rnRun c W (ds.take k) rn0).1), blkI g 29 #[.slice none 0 0, .slice none 0 0, .slice none 0 0, .int .i64 0]])) (fun i _ => nd - (intOf i).toNat)
  case atStart => exact ⟨0, none, 0, t0, by omega, rfl, HT0.out, HS3.out⟩
  case round =>
    clear HS3 HT0
    obtain ⟨k, A, c', t, hk, rfl, HA, hS⟩ := hrel
    by_cases hlt : k < nd
    · have hkl : k < ds.length := by rw [HDL.out]; exact hlt
      obtain ⟨ok0, on, ot0, ot1⟩ := HAT.out k (by omega)
      rw [← HA.out] at ok0 on ot0 ot1
      obtain ⟨v0, v1, v2, v3, v4⟩ := dosV_at ds k hkl
      obtain ⟨ad, hA, _, had, hc, hd⟩ := (hD.below hS.below_).atN hlt
      have e0 := hc _ v0
      have e1 := hd 0 _ v1
      have e2 := hd 1 _ v2
      have e3 := hd 2 _ v3
      have e4 := hd 3 _ v4
      have hrs := rnRun_at c W ds k hkl
      rw [← HA.out] at hrs
      obtain ⟨d, hd'⟩ : ∃ d, ds[k] = d := ⟨_, rfl⟩
      rw [hd'] at e0 e1 e2 e3 e4 hrs
      obtain ⟨gd, hgd⟩ : ∃ x, wr.heap.size = x := ⟨_, rfl⟩
      have hS2 := (hS.blkAt 39 d.cells hgd).blkAt 41 #[.int .i64 0, .bool false, .int .i64 0] (g := gd + 1) (by simp [hgd])
      have hgO := hS.hi 1 rfl gO rfl
      have n1 : gO ≠ gd := by omega
      have n2 : gO ≠ gd + 1 := by omega
      have n3 : gd ≠ gO := by omega
      have n4 : gd + 1 ≠ gO := by omega
      have n5 : gd + 1 ≠ gd := by omega
      have n6 : gd ≠ gd + 1 := by omega
      subst hA
      by_cases h8 : d.k = 8
      · have CW := hide (runwork_any HC.out HW.out hS2 ok0 (by omega) ot0 (by omega))
        have hst : rnStep c W d t.a = (⟨0, false, 0⟩, t.a.clear c) := by unfold rnStep; rw [if_pos h8]
        rw [hst] at hrs
        have HRS := hide hrs
        have HS2 := hide hS2
        obtain ⟨dk, dto, dfr, dat, dn⟩ := d
        dsimp only at h8 e0 e1 e2 e3 e4
        subst h8
        clear hrs hS2 hS hc hd v0 v1 v2 v3 v4 hd' hst ok0 on ot0 ot1
        unfold DoV.cells at CW HS2
        go_wp2_with fail
        refine CW.out.mono ?_
        rintro e w4 ⟨⟨u, rfl⟩, t', hcw, hS4⟩
        obtain ⟨u1, u2, u3, -⟩ := hS4.rules 1 (g := gO) (t := 29) rfl
        have u5 := (u1 0).trans (show _ = some (.slice A k c') from rfl)
        obtain ⟨x1, x2, x3, -⟩ := hS4.rules 5 (g := gd + 1) (t := 41) rfl
        have x5 := (x1 0).trans (show _ = some (.int .i64 0) from rfl)
        have x6 := (x1 1).trans (show _ = some (.bool false) from rfl)
        have x7 := (x1 2).trans (show _ = some (.int .i64 0) from rfl)
        have hrs := HRS.out
        rw [← hcw] at hrs
        have HRS := hide hrs
        have HS5 := hide hS4
        clear hS4 HS2 CW u1 x1 hrs hcw
        go_wp2_with (first
          | (at_builtin
             refine wpList_app1 (cs := #[.int .i64 0, .bool false, .int .i64 0]) rfl (.tmp 63) (.tmp 65) 23 rfl (F := No) (W := w) sOut (items := _ :: _ :: _ :: _ :: _) HS5.out 2 (n := k) rfl rfl rfl (by simp) rfl rfl (by omega) ?_
             intro A6 c6 w6 hS6 hC6
             obtain ⟨u1, u2, u3, -⟩ := hS6.rules 1 (g := gO) (t := 29) rfl))
        have hS7 := hS6.set_ 1 (g := gO) (t := 29) rfl 0 (.slice A6 (k + 1) c6)
        have HS7 := hide (hS7.sub (l := [_, _, _, _]) (List.sublist_append_left [_, _, _, _] [_, _]))
        clear hS6 hC6 hS7 u1 HS5
        go_roundw
        case rel => exact ⟨k + 1, A6, c6, t', by omega, by go_num, by rw [HRS.out]; exact hide rfl, by
          rw [HRS.out]
          dsimp only
          rw [outsV_app, outsV_one]
          exact HS7.out⟩
        case measure => simp [intOf]; omega
      · have CD := rundo_any HC.out HW.out hS2 ok0 (by omega) ot0 (by omega) d
        have hst : rnStep c W d t.a = rnDo c W d t.a := by unfold rnStep; rw [if_neg h8]
        rw [hst] at hrs
        have HRS := hide hrs
        have HCD := hide CD
        obtain ⟨dk, dto, dfr, dat, dn⟩ := d
        dsimp only at h8 e0 e1 e2 e3 e4
        have y8 : (dk == 8) = false := by simp [h8]
        clear hrs hS2 hS hc hd v0 v1 v2 v3 v4 hd' hst ok0 on ot0 ot1 CD h8
        unfold DoV.cells at HCD
        go_wp2_with fail
        refine HCD.out.mono ?_
        rintro e w4 ⟨oc, orf, on, t', rfl, hcw, hS4⟩
        obtain ⟨u1, u2, u3, -⟩ := hS4.rules 1 (g := gO) (t := 29) rfl
        have u5 := (u1 0).trans (show _ = some (.slice A k c') from rfl)
        obtain ⟨x1, x2, x3, -⟩ := hS4.rules 5 (g := gd + 1) (t := 41) rfl
        have x5 := (x1 0).trans (show _ = some (.int .i64 0) from rfl)
        have x6 := (x1 1).trans (show _ = some (.bool false) from rfl)
        have x7 := (x1 2).trans (show _ = some (.int .i64 0) from rfl)
        have hrs := HRS.out
        rw [hcw] at hrs
        have HRS := hide hrs
        have HS5 := hide (((hS4.set_ 5 (g := gd + 1) (t := 41) rfl 0 (.int .i64 oc)).set_ 5 (g := gd + 1) (t := 41) rfl 1 (.bool orf)).set_ 5 (g := gd + 1) (t := 41) rfl 2 (.int .i64 on))
        clear hS4 HCD u1 x1 hrs hcw
        go_wp2_with (first
          | (at_builtin
             refine wpList_app1 (cs := #[.int .i64 oc, .bool orf, .int .i64 on]) rfl (.tmp 63) (.tmp 65) 23 rfl (F := No) (W := w) sOut (items := _ :: _ :: _ :: _ :: _) HS5.out 2 (n := k) rfl rfl rfl (by simp) rfl rfl (by omega) ?_
             intro A6 c6 w6 hS6 hC6
             obtain ⟨u1, u2, u3, -⟩ := hS6.rules 1 (g := gO) (t := 29) rfl))
        have hS7 := hS6.set_ 1 (g := gO) (t := 29) rfl 0 (.slice A6 (k + 1) c6)
        have HS7 := hide (hS7.sub (l := [_, _, _, _]) (List.sublist_append_left [_, _, _, _] [_, _]))
        clear hS6 hC6 hS7 u1 HS5
        go_roundw
        case rel => exact ⟨k + 1, A6, c6, t', by omega, by go_num, by rw [HRS.out]; exact hide rfl, by
          rw [HRS.out]
          dsimp only
          rw [outsV_app, outsV_one]
          exact HS7.out⟩
        case measure => simp [intOf]; omega
    · obtain rfl : k = nd := by omega
      obtain ⟨ok0, on, ot0, ot1⟩ := HAT.out k (by have := HDL.out; omega)
      rw [← HA.out] at ok0 on ot0 ot1
      rw [List.take_of_length_le (by rw [HDL.out]; exact Nat.le_refl _)] at HA hS
      have hpl := rn_len t
      have CG := hide (fun (X : World) (hP : ((rnKm c W Bm Be).item t).P X) => heapGraph_any X t.oj.As t.oj.ps.length t.oj.c t.oj.ptrs t.regs t.a.gs (ptrs_gs t) (oj_ptrs (pre := [_, _, _]) (rkm_flat hP)) (by omega) ok0.r8 (ptrs_n4 (pre := [_, _, _]) (rkm_flat hP) ok0) ok0.gv.2 ok0.gv.1)
      obtain ⟨q0, q1, q2, q3, q4, q5, q6, q7, hq⟩ := eight t.regs ok0.r8
      have HSEL := hide (fun (X : World) (hP : ((rnKm c W Bm Be).item t).P X) => rn_sel hP hq)
      obtain ⟨FF, hFF⟩ : ∃ F, renumF t.a.gs (order t.a.gs t.regs) = F := ⟨_, rfl⟩
      obtain ⟨RR, hRR⟩ : ∃ F, t.regs.map (turnL (order t.a.gs t.regs)) = F := ⟨_, rfl⟩
      simp only [hFF, hRR] at CG
      have HFF := hide (show renumF (rnRun c W ds rn0).2.gs (rnRun c W ds rn0).2.lives = FF from by rw [← HA.out]; exact hFF)
      have HRR := hide (show (rnRun c W ds rn0).2.regs.map (turnL (rnRun c W ds rn0).2.lives) = RR from by rw [← HA.out]; exact hRR)
      have HTM := hide (show (rnRun c W ds rn0).2.times = t.times from by rw [← HA.out]; rfl)
      rw [hq] at CG
      have hCG2 : ∀ (X : World) (hP : ((rnKm c W Bm Be).item t).P X), Calls Try.prog 44 #[.slice t.oj.As t.oj.ps.length t.oj.c, .agg #[.bool q0.1, .int .i64 q0.2, .bool q1.1, .int .i64 q1.2, .bool q2.1, .int .i64 q2.2, .bool q3.1, .int .i64 q3.2, .bool q4.1, .int .i64 q4.2, .bool q5.1, .int .i64 q5.2, .bool q6.1, .int .i64 q6.2, .bool q7.1, .int .i64 q7.2]] X fun e w' => ∃ v', e = .returned v' ∧ Below X.heap.size X w' ∧ GraphRd w' (fun g => X.heap.size ≤ g) v' FF RR := CG.out
      have CG3 := hide (hCG2 wr.drew (hS.drew.get 0 rfl))
      obtain ⟨b5, b6, d0, d1, d2, d3, d4, d5, d6, d7, d8, d9, d10, d11, d12, d13, d14, d15⟩ := rn_sel (hS.get 0 rfl) hq
      have hbe := (rn_cells (pre := []) (rkm_flat (hS.get 0 rfl))).2.2.2.2.2.2.2
      have hbm : Bm < wr.heap.size := (rkm_flat (hS.get 0 rfl)).hi 0 rfl Bm rfl
      obtain ⟨o1, o2, o3, -⟩ := hS.rules 1 (g := gO) (t := 29) rfl
      have HS := hide hS
      obtain ⟨ne1, ne2, ne3, ne4⟩ := HNE.out
      have m1 : gO ≠ Be := by omega
      have m2 : gO ≠ Bm := by omega
      have m3 : Be ≠ gO := by omega
      have m4 : Bm ≠ gO := by omega
      have m5 : g ≠ gO := by omega
      have m6 : gO ≠ g := by omega
      have HNG := hide (show w.heap.size = g from ne4)
      obtain ⟨ml, hml⟩ : ∃ x, t.oj.ps.length = x := ⟨_, rfl⟩
      obtain ⟨mA, hmA⟩ : ∃ x, t.oj.As = x := ⟨_, rfl⟩
      obtain ⟨mc, hmc⟩ : ∃ x, t.oj.c = x := ⟨_, rfl⟩
      rw [hml, hmA, hmc] at b5 CG3 HSEL
      obtain ⟨tm, htm⟩ : ∃ x, t.times = x := ⟨_, rfl⟩
      rw [htm] at b6 HSEL HTM
      clear CG hCG2 hS hFF hRR hq hml hmA hmc ok0 on ot0 ot1 hpl hk htm ne1 ne2 ne3 ne4 o1 HA HAT
      go_wp2_with fail
      go_region_held3 (fun w' => w'.cell? ⟨Be, 0, none⟩ = some (.slice mA ml mc) ∧ w'.cell? ⟨Be, 5, none⟩ = some (.int .i64 tm) ∧ w'.cell? ⟨Bm, 0, none⟩ = some (.bool q0.1) ∧ w'.cell? ⟨Bm, 1, none⟩ = some (.int .i64 q0.2) ∧ w'.cell? ⟨Bm, 2, none⟩ = some (.bool q1.1) ∧ w'.cell? ⟨Bm, 3, none⟩ = some (.int .i64 q1.2) ∧ w'.cell? ⟨Bm, 4, none⟩ = some (.bool q2.1) ∧ w'.cell? ⟨Bm, 5, none⟩ = some (.int .i64 q2.2) ∧ w'.cell? ⟨Bm, 6, none⟩ = some (.bool q3.1) ∧ w'.cell? ⟨Bm, 7, none⟩ = some (.int .i64 q3.2) ∧ w'.cell? ⟨Bm, 8, none⟩ = some (.bool q4.1) ∧ w'.cell? ⟨Bm, 9, none⟩ = some (.int .i64 q4.2) ∧ w'.cell? ⟨Bm, 10, none⟩ = some (.bool q5.1) ∧ w'.cell? ⟨Bm, 11, none⟩ = some (.int .i64 q5.2) ∧ w'.cell? ⟨Bm, 12, none⟩ = some (.bool q6.1) ∧ w'.cell? ⟨Bm, 13, none⟩ = some (.int .i64 q6.2) ∧ w'.cell? ⟨Bm, 14, none⟩ = some (.bool q7.1) ∧ w'.cell? ⟨Bm, 15, none⟩ = some (.int .i64 q7.2)) (first | go_keep | (simp only [World.cell?_drew]; assumption) | assumption)
        ((go_at_call 44; (with_reducible refine CG3.out.mono ?_); rintro e w4 ⟨v', rfl, hb4, hg4⟩; obtain ⟨B5, n5, d5', B6, n6, d6', obs', rfl, hO5, hF5, hR6⟩ := hg4.ex; have hS4 := HS.out.drew.below hb4; obtain ⟨e16, e17, e0, e1, e2, e3, e4, e5, e6, e7, e8, e9, e10, e11, e12, e13, e14, e15⟩ := HSEL.out w4 (hS4.get 0 rfl); obtain ⟨x1, x2, x3, -⟩ := hS4.rules 1 (g := gO) (t := 29) rfl; obtain ⟨y1, y2, y3, -⟩ := hS4.rules 3 (g := g) (t := 29) rfl; have HG4 := hide hg4; have HS4 := hide hS4; clear hO5 hF5 hR6 hS4 hg4 hb4))
      all_goals
        have hws : w.heap.size ≤ wr.drew.heap.size := HS.out.drew.below_.size
        have hgw : g < wr.drew.heap.size := HS.out.drew.hi 3 rfl _ rfl
        have hgo : gO < wr.drew.heap.size := HS.out.drew.hi 1 rfl _ rfl
        go_wp2_with fail
        have hF := ((((((HS4.out.set_ 1 (g := gO) (t := 29) rfl 1 (.slice B5 n5 d5')).set_ 1 (g := gO) (t := 29) rfl 2 (.slice B6 n6 d6')).set_ 1 (g := gO) (t := 29) rfl 3 (.int .i64 tm)).set_ 3 (g := g) (t := 29) rfl 0 (.slice A k c')).set_ 3 (g := g) (t := 29) rfl 1 (.slice B5 n5 d5')).set_ 3 (g := g) (t := 29) rfl 2 (.slice B6 n6 d6')).set_ 3 (g := g) (t := 29) rfl 3 (.int .i64 tm)
        obtain ⟨z1, -, -, -⟩ := hF.rules 3 (g := g) (t := 29) rfl
        refine bodyPost_ret (v := .tuple #[.agg #[.slice A k c', .slice B5 n5 d5', .slice B6 n6 d6', .int .i64 tm], .int .i64 0]) (by simp [results, Try.results14, go_sem, z1]) rfl ⟨A, c', B5, n5, d5', B6, n6, d6', by rw [HTM.out], hF.below_, hF.rd 2 rfl, ?_⟩
        have hc : Chg (fun g' => g' = gO ∨ g' = g) w4 (((((((w4.setCell ⟨gO, 1, none⟩ (.slice B5 n5 d5')).setCell ⟨gO, 2, none⟩ (.slice B6 n6 d6')).setCell ⟨gO, 3, none⟩ (.int .i64 tm)).setCell ⟨g, 0, none⟩ (.slice A k c')).setCell ⟨g, 1, none⟩ (.slice B5 n5 d5')).setCell ⟨g, 2, none⟩ (.slice B6 n6 d6')).setCell ⟨g, 3, none⟩ (.int .i64 tm)) :=
          (((((((Chg.refl (fun g' => g' = gO ∨ g' = g) w4).setCell (p := ⟨gO, 1, none⟩) (.inl (.inl rfl)) _).setCell (p := ⟨gO, 2, none⟩) (.inl (.inl rfl)) _).setCell (p := ⟨gO, 3, none⟩) (.inl (.inl rfl)) _).setCell (p := ⟨g, 0, none⟩) (.inl (.inr rfl)) _).setCell (p := ⟨g, 1, none⟩) (.inl (.inr rfl)) _).setCell (p := ⟨g, 2, none⟩) (.inl (.inr rfl)) _).setCell (p := ⟨g, 3, none⟩) (.inl (.inr rfl)) _
        rw [HFF.out, HRR.out]
        obtain ⟨C5, m5', k5, C6, m6', k6, obs2, he, hO5, hF5, hR6⟩ := HG4.out.ex
        refine ⟨?_, (row_cap (hF.get 2 rfl)).1, (row_cap (hF.get 2 rfl)).2⟩
        exact ⟨C5, m5', k5, C6, m6', k6, obs2, he, (hO5.chg hc (fun g' hg hd => by rcases hg with rfl | rfl <;> omega)).more (fun k _ hk => by omega), hF5, (hR6.chg hc (fun g' hg hd => by rcases hg with rfl | rfl <;> omega)).more (fun k _ hk => by omega)⟩
end Go.Proofs.Ytjphckfbbiehdaa

namespace Go.Proofs.Ytjphckfbbiehdaa
open Go.RowKit

theorem sDo : SliceT Try.prog 22 39 5 40 := SliceT.mk_ Try.underlying22 (z := .agg #[.int .i64 0, .int .i64 0, .int .i64 0, .int .i64 0, .int .i64 0]) (by kernel_rfl) rfl (by omega)
theorem dosV_app (a b : List DoV) : dosV (a ++ b) = dosV a ++ dosV b := by simp [dosV]
theorem toldF_take (works : List Int) (ds : List DoV) (os : List OutV) {k : Nat} {d : DoV} {o : OutV} (hd : ds[k]? = some d) (ho : os[k]? = some o) :
    toldF works (ds.take (k + 1)) (os.take (k + 1)) = toldF works (ds.take k) (os.take k) ++ (if toldB works (d, o) = true then [(d, o)] else []) := by
  obtain ⟨h1, rfl⟩ := List.getElem?_eq_some_iff.1 hd
  obtain ⟨h2, rfl⟩ := List.getElem?_eq_some_iff.1 ho
  rw [List.take_succ_eq_append_getElem h1, List.take_succ_eq_append_getElem h2, toldF_snoc]
  simp; omega
theorem toldF_len (works : List Int) (ds : List DoV) (os : List OutV) : (toldF works ds os).length ≤ ds.length := by
  unfold toldF
  refine Nat.le_trans (List.length_filter_le _ _) ?_
  rw [List.length_zip]; omega
def σ0 : MSt := ⟨List.replicate 8 (false, 0), []⟩
theorem σ0_ok : MOk σ0 := ⟨rfl, fun v hv h1 => (by obtain ⟨_, rfl⟩ := List.mem_replicate.1 (show v ∈ List.replicate 8 (false, 0) from hv); cases h1), fun fs hfs => (by cases hfs), fun fs hfs => (by cases hfs)⟩

set_option maxRecDepth 100000 in
set_option maxHeartbeats 32000000 in
theorem told_any (w : World) (Ad Ao Aw : Option Addr) (nd cd co cw : Nat) (ds : List DoV) (os : List OutV) (hnd : nd ≤ 100) (hD : Rd w (fun _ => True) 5 Ad nd (dosV ds)) (hO : Rd w (fun _ => True) 3 Ao nd (outsV os)) (hW : Rd w (fun _ => True) 1 Aw 1 (ints [8]))
    (htold : (runM ((toldF [8] ds os).map Prod.fst) σ0).1 = (toldF [8] ds os).map Prod.snd) :
    Calls Try.prog 15 #[.slice Ad nd cd, .slice Ao nd co, .slice Aw 1 cw] w fun e w' => ∃ B1 n1 c1 B2 n2 c2, e = .returned (.tuple #[.agg #[.slice B1 n1 c1, .slice B2 n2 c2], .bool true]) ∧ Below w.heap.size w w' ∧
      GraphRd w' (fun g => w.heap.size ≤ g) (.agg #[.slice B1 n1 c1, .slice B2 n2 c2]) (renumF (runM ((toldF [8] ds os).map Prod.fst) σ0).2.objs (order (runM ((toldF [8] ds os).map Prod.fst) σ0).2.objs (runM ((toldF [8] ds os).map Prod.fst) σ0).2.regs)) ((runM ((toldF [8] ds os).map Prod.fst) σ0).2.regs.map (turnL (order (runM ((toldF [8] ds os).map Prod.fst) σ0).2.objs (runM ((toldF [8] ds os).map Prod.fst) σ0).2.regs))) := by
  have hdl : ds.length = nd := by have := hD.1; rw [dosV_length] at this; omega
  have hol : os.length = nd := by have := hO.1; rw [outsV_length] at this; omega
  have HDL := hide hdl
  have HOL := hide hol
  have HTK := hide (fun (k : Nat) (d : DoV) (o : OutV) => toldF_take [8] ds os (k := k) (d := d) (o := o))
  have HTL := hide (toldF_len [8] ds os)
  have HTLK := hide (fun k => toldF_len [8] (ds.take k) (os.take k))
  obtain ⟨g, hg⟩ : ∃ g, w.heap.size = g := ⟨_, rfl⟩
  have hS0 := (((Sep.nil No w).blkAt 27 #[.slice none 0 0, .slice none 0 0] hg).nilRow0 41 3).nilRow0 39 5
  have HS0 := hide hS0
  have HHA := hide (fun (X : World) (x : Int) (hb : Below w.heap.size w X) => has_any X (fun _ => True) Aw 1 cw [8] x (by omega) (hW.below hb))
  have HTOLD := hide htold
  clear hdl hol hS0 hW htold
  go_enter Try.func15, Try.ntmps15
  go_wp2_with fail
  go_loopw [8, 9, 23] (fun a b i wr => ∃ (k m : Nat) (A1 A2 : Option Addr) (c1 c2 : Nat), k ≤ nd ∧ m ≤ k ∧ i = .int .i64 k ∧ a = .slice A1 m c1 ∧ b = .slice A2 m c2 ∧ Hid ((toldF [8] (ds.take k) (os.take k)).length = m) ∧
    Sep No w wr [rowI 39 5 A1 m c1 (dosV ((toldF [8] (ds.take k) (os.take k)).map Prod.fst)), rowI 41 3 A2 m c2 (outsV ((toldF [8] (ds.take k) (os.take k)).map Prod.snd)), blkI g 27 #[.slice none 0 0, .slice none 0 0]]) (fun _ _ i _ => nd - (intOf i).toNat)
  case atStart => exact ⟨0, 0, none, none, 0, 0, by omega, by omega, rfl, rfl, rfl, rfl, HS0.out⟩
  case round =>
    clear HS0
    obtain ⟨k, m, A1, A2, c1, c2, hk, hmk, rfl, rfl, rfl, HM, hS⟩ := hrel
    by_cases hlt : k < nd
    · have hkl : k < ds.length := by rw [HDL.out]; exact hlt
      have hko : k < os.length := by rw [HOL.out]; exact hlt
      obtain ⟨v0, v1, v2, v3, v4⟩ := dosV_at ds k hkl
      obtain ⟨ad, hA, _, had, hc, hd⟩ := (hD.below hS.below_).atN hlt
      have e0 := hc _ v0
      have e1 := hd 0 _ v1
      have e2 := hd 1 _ v2
      have e3 := hd 2 _ v3
      have e4 := hd 3 _ v4
      obtain ⟨u0, u1, u2⟩ := outsV_at os k hko
      obtain ⟨d, hd'⟩ : ∃ d, ds[k] = d := ⟨_, rfl⟩
      obtain ⟨o, ho'⟩ : ∃ o, os[k] = o := ⟨_, rfl⟩
      rw [hd'] at e0 e1 e2 e3 e4
      have hT := HTK.out k d o (by rw [← hd']; exact List.getElem?_eq_getElem hkl) (by rw [← ho']; exact List.getElem?_eq_getElem hko)
      obtain ⟨gd, hgd⟩ : ∃ x, wr.heap.size = x := ⟨_, rfl⟩
      have hS2 := hS.blkAt 39 d.cells hgd
      obtain ⟨ao, hAo, _, hao, hco, hdo⟩ := (hO.below hS2.below_).atN hlt
      have f0 := hco _ u0
      have f1 := hdo 0 _ u1
      have f2 := hdo 1 _ u2
      rw [ho'] at f0 f1 f2
      have CH := HHA.out _ d.k hS2.below_
      have HS2 := hide hS2
      subst hA
      subst hAo
      obtain ⟨dk, dto, dfr, dat, dn⟩ := d
      obtain ⟨oc, orf, on⟩ := o
      dsimp only at e0 e1 e2 e3 e4 f0 f1 f2 CH
      unfold DoV.cells at HS2 CH f0 f1 f2 hao hS2
      dsimp only at HS2 CH f0 f1 f2 hao hS2
      have HOU := hide (fun (X : World) (hb : Below w.heap.size w X) => (show X.cell? (ao.add (k * 3)) = some (.int .i64 oc) ∧ X.cell? ⟨(ao.add (k * 3)).block, (ao.add (k * 3)).off + (0 + 1), none⟩ = some (.bool orf) ∧ X.cell? ⟨(ao.add (k * 3)).block, (ao.add (k * 3)).off + (1 + 1), none⟩ = some (.int .i64 on) ∧ ao.block < X.heap.size from by
        obtain ⟨ao', hAo', _, hao', hco', hdo'⟩ := (hO.below hb).atN hlt
        injection hAo' with hAo'
        subst hAo'
        have q0 := hco' _ u0
        have q1 := hdo' 0 _ u1
        have q2 := hdo' 1 _ u2
        rw [ho'] at q0 q1 q2
        exact ⟨q0, q1, q2, hao'⟩))
      obtain ⟨z1, z2, z3, -⟩ := hS2.rules 3 (g := gd) (t := 39) rfl
      by_cases h8 : dk = 8
      · subst h8
        rw [show decide ((8 : Int) ∈ [8]) = true from rfl] at CH
        have hT2 : toldF [8] (ds.take (k + 1)) (os.take (k + 1)) = toldF [8] (ds.take k) (os.take k) := by rw [hT, if_neg (by simp [toldB]), List.append_nil]
        have HT2 := hide hT2
        have HCH := hide CH
        clear hc hd hco hdo v0 v1 v2 v3 v4 u0 u1 u2 hT hT2 hd' ho' hS hS2 CH HOU
        go_wp2_with fail
        refine HCH.out.mono ?_
        rintro e w2 ⟨rfl, rfl⟩
        clear HCH
        go_wp2_with fail
        go_roundw
        case rel => exact ⟨k + 1, m, A1, A2, c1, c2, by omega, by omega, by go_num, rfl, rfl, by rw [HT2.out]; exact HM, by rw [HT2.out]; exact HS2.out.sub (List.sublist_append_left [_, _, _] [_])⟩
        case measure => simp [intOf]; omega
      · rw [show decide (dk ∈ [8]) = false from by simp [h8]] at CH
        by_cases h6 : oc = 6
        · subst h6
          have hT2 : toldF [8] (ds.take (k + 1)) (os.take (k + 1)) = toldF [8] (ds.take k) (os.take k) := by rw [hT, if_neg (by simp [toldB]), List.append_nil]
          have HT2 := hide hT2
          have HCH := hide CH
          clear hc hd hco hdo v0 v1 v2 v3 v4 u0 u1 u2 hT hT2 hd' ho' hS hS2 CH HOU h8
          go_wp2_with fail
          refine HCH.out.mono ?_
          rintro e w2 ⟨rfl, rfl⟩
          clear HCH
          go_wp2_with fail
          go_roundw
          case rel => exact ⟨k + 1, m, A1, A2, c1, c2, by omega, by omega, by go_num, rfl, rfl, by rw [HT2.out]; exact HM, by rw [HT2.out]; exact HS2.out.sub (List.sublist_append_left [_, _, _] [_])⟩
          case measure => simp [intOf]; omega
        · have y6 : (oc != 6) = true := by simp [h6]
          have hT2 : toldF [8] (ds.take (k + 1)) (os.take (k + 1)) = toldF [8] (ds.take k) (os.take k) ++ [(⟨dk, dto, dfr, dat, dn⟩, ⟨oc, orf, on⟩)] := by rw [hT, if_pos (by simp [toldB, h8, h6])]
          have HT2 := hide hT2
          have HCH := hide CH
          have z5 := (z1 0).trans (show _ = some (.int .i64 dk) from rfl)
          have z6 := (z1 1).trans (show _ = some (.int .i64 dto) from rfl)
          have z7 := (z1 2).trans (show _ = some (.int .i64 dfr) from rfl)
          have z8 := (z1 3).trans (show _ = some (.int .i64 dat) from rfl)
          have z9 := (z1 4).trans (show _ = some (.int .i64 dn) from rfl)
          clear hc hd hco hdo v0 v1 v2 v3 v4 u0 u1 u2 hT hT2 hd' ho' hS hS2 CH h8 h6 z1
          go_wp2_with fail
          refine HCH.out.mono ?_
          rintro e w2 ⟨rfl, rfl⟩
          clear HCH
          go_wp2_with (first
            | (at_builtin
               refine wpList_app1 (cs := #[.int .i64 dk, .int .i64 dto, .int .i64 dfr, .int .i64 dat, .int .i64 dn]) rfl (.tmp 41) (.tmp 43) 22 rfl (F := No) (W := w) sDo (items := _ :: _ :: _ :: _) HS2.out 0 (n := m) rfl rfl rfl (by first | (simp; done) | exact hgd | (simp [hgd]; done)) rfl rfl (by omega) ?_
               intro A6 c6 w6 hS6 hC6
               obtain ⟨q0, q1, q2, q3⟩ := HOU.out w6 hS6.below_
               clear hC6)
            | (at_builtin
               refine wpList_app1 (cs := #[.int .i64 oc, .bool orf, .int .i64 on]) rfl (.tmp 45) (.tmp 50) 23 rfl (F := No) (W := w) sOut (items := _ :: _ :: _ :: _) hS6 1 (n := m) rfl rfl rfl (by simp) rfl rfl (by omega) ?_
               intro A7 c7 w7 hS7 hC7
               clear hC7))
          have HS7 := hide (hS7.sub (l := [_, _, _]) (List.sublist_append_left [_, _, _] [_]))
          clear hS7 hS6
          go_roundw
          case rel => exact ⟨k + 1, m + 1, A6, A7, c6, c7, by omega, by omega, by go_num, rfl, rfl, by rw [HT2.out, List.length_append, HM.out]; exact hide rfl, by
            rw [HT2.out, List.map_append, List.map_append, dosV_app, outsV_app]
            exact HS7.out⟩
          case measure => simp [intOf]; omega
    · obtain rfl : k = nd := by omega
      have hT1 : ds.take k = ds := List.take_of_length_le (by rw [HDL.out]; exact Nat.le_refl _)
      have hT2 : os.take k = os := List.take_of_length_le (by rw [HOL.out]; exact Nat.le_refl _)
      rw [hT1, hT2] at HM hS
      have hml := HM.out
      obtain ⟨own, hown⟩ : ∃ l, (toldF [8] ds os).map Prod.fst = l := ⟨_, rfl⟩
      obtain ⟨want, hwant⟩ : ∃ l, (toldF [8] ds os).map Prod.snd = l := ⟨_, rfl⟩
      rw [hown, hwant] at hS
      have htold := HTOLD.out
      rw [hown, hwant] at htold
      have hm : m ≤ 100 := by omega
      have CI := idealPlay_ok wr none none A1 0 0 0 0 m c1 [] [] [] own rfl ⟨Rd.nil, by simp⟩ Rd.nil (by simp) (by unfold playErr; rw [show gcheck 0 0 [] [] = 0 from by decide, if_neg (by decide), if_neg (by omega)]) σ0_ok (hS.rd_ 0 rfl)
      rw [show (⟨padR [] 0, []⟩ : MSt) = σ0 from rfl] at CI
      have HOWN := hide hown
      rw [htold] at CI
      have CO := hide (fun (X : World) (A : Option Addr) (c : Nat) (hb : Sep No w X [rowI 39 5 A1 m c1 (dosV own), rowI 41 3 A2 m c2 (outsV want), blkI g 27 #[.slice none 0 0, .slice none 0 0]]) (h : Rd X (fun _ => True) 3 A m (outsV want)) => outs_any X A A2 m c c2 want (by omega) h (hb.rd_ 1 rfl))
      obtain ⟨FF, hFF⟩ : ∃ F, renumF (runM own σ0).2.objs (order (runM own σ0).2.objs (runM own σ0).2.regs) = F := ⟨_, rfl⟩
      obtain ⟨RR, hRR⟩ : ∃ F, (runM own σ0).2.regs.map (turnL (order (runM own σ0).2.objs (runM own σ0).2.regs)) = F := ⟨_, rfl⟩
      rw [hFF, hRR] at CI
      have HFF := hide hFF
      have HRR := hide hRR
      have HCI := hide CI
      have HS := hide hS
      clear hS CI hFF hRR hown hwant htold hT1 hT2 HTOLD HTK HHA hml HTL
      go_wp2_with fail
      refine HCI.out.mono ?_
      rintro e w3 ⟨A, c, v', rfl, hb3, hr3, hg3⟩
      obtain ⟨B5, n5, d5, B6, n6, d6, obs', rfl, hO5, hF5, hR6⟩ := hg3.ex
      have HGL := hide (show g < wr.heap.size ∧ w.heap.size ≤ wr.heap.size from ⟨HS.out.hi 2 rfl g rfl, HS.out.below_.size⟩)
      have hS3 := HS.out.below hb3
      obtain ⟨gh, hgh⟩ : ∃ x, w3.heap.size = x := ⟨_, rfl⟩
      have hS4 := hS3.blkAt 27 #[.slice B5 n5 d5, .slice B6 n6 d6] hgh
      have hbb : Below w3.heap.size w3 (w3.alloc (.cells #[.slice B5 n5 d5, .slice B6 n6 d6] 27)) := (Below.refl _ w3).alloc (Nat.le_refl _) _
      have HG4 := hide (hg3.below hbb.drew)
      have CO2 := hide (CO.out _ A c ((hS4.drew).sub (l := [_, _, _]) (List.sublist_append_left [_, _, _] [_])) ((hr3.below hbb).more (fun _ _ _ => trivial)))
      obtain ⟨x1, x2, x3, -⟩ := hS4.rules 3 (g := gh) (t := 27) rfl
      have x5 := (x1 0).trans (show _ = some (.slice B5 n5 d5) from rfl)
      have x6 := (x1 1).trans (show _ = some (.slice B6 n6 d6) from rfl)
      obtain ⟨y1, y2, y3, -⟩ := hS4.rules 2 (g := g) (t := 27) rfl
      have ne1 : g ≠ gh := by have := HS.out.hi 2 rfl g rfl; have := hb3.size; omega
      have ne2 : gh ≠ g := fun e => ne1 e.symm
      have HS4 := hide hS4
      clear hO5 hF5 hR6 hS3 hS4 hb3 hr3 hg3 HCI HS CO hbb x1 y1
      go_wp2_with fail
      go_region_held3 (fun w' => w'.cell? ⟨gh, 0, none⟩ = some (.slice B5 n5 d5) ∧ w'.cell? ⟨gh, 1, none⟩ = some (.slice B6 n6 d6)) (first | go_keep | (simp only [World.cell?_drew]; assumption) | assumption)
        ((go_at_call 30; (with_reducible refine CO2.out.mono ?_); rintro e w4 ⟨rfl, hb4⟩; have hS5 := HS4.out.drew.below hb4; obtain ⟨l1, l2, l3, -⟩ := hS5.rules 3 (g := gh) (t := 27) rfl; have l5 := (l1 0).trans (show _ = some (.slice B5 n5 d5) from rfl); have l6 := (l1 1).trans (show _ = some (.slice B6 n6 d6) from rfl); obtain ⟨r1, r2, r3, -⟩ := hS5.rules 2 (g := g) (t := 27) rfl; have HG5 := hide (HG4.out.below hb4); have HS5 := hide hS5; clear hS5 hb4 l1))
      all_goals
        go_wp2_with fail
        have hF := (HS5.out.set_ 2 (g := g) (t := 27) rfl 0 (.slice B5 n5 d5)).set_ 2 (g := g) (t := 27) rfl 1 (.slice B6 n6 d6)
        obtain ⟨z1, -, -, -⟩ := hF.rules 2 (g := g) (t := 27) rfl
        refine bodyPost_ret (v := .tuple #[.agg #[.slice B5 n5 d5, .slice B6 n6 d6], .bool true]) (by simp [results, Try.results15, go_sem, z1]) rfl ⟨B5, n5, d5, B6, n6, d6, rfl, hF.below_, ?_⟩
        rw [HOWN.out, HFF.out, HRR.out]
        have hc : Chg (fun g' => g' = g) w4 ((w4.setCell ⟨g, 0, none⟩ (.slice B5 n5 d5)).setCell ⟨g, 1, none⟩ (.slice B6 n6 d6)) := ((Chg.refl (fun g' => g' = g) w4).setCell (p := ⟨g, 0, none⟩) (.inl rfl) _).setCell (p := ⟨g, 1, none⟩) (.inl rfl) _
        obtain ⟨C5, m5', k5, C6, m6', k6, obs2, he, hO5, hF5, hR6⟩ := HG5.out.ex
        have hgl := HGL.out
        exact ⟨C5, m5', k5, C6, m6', k6, obs2, he, (hO5.chg hc (fun g' hg hd => by subst hg; omega)).more (fun k _ hk => by omega), hF5, (hR6.chg hc (fun g' hg hd => by subst hg; omega)).more (fun k _ hk => by omega)⟩
end Go.Proofs.Ytjphckfbbiehdaa
