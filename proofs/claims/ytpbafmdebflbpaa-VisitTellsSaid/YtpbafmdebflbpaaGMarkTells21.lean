/- arena: Lay. The law ArenaLays: the walk. Marks: Mark where it refuses; the law MarkTells: the walk. -/
import Derived.Test.YtpbafmdebflbpaaGMarkTells4
import Derived.Deep.RegionHeld3
import Derived.Test.YtpbafmdebflbpaaGMarkTells19
import Derived.Test.YtpbafmdebflbpaaGMarkTells20
set_option linter.unusedSimpArgs false
set_option linter.unusedVariables false
namespace Go.Proofs.Ytpbafmdebflbpaa
open Go.RowKit

theorem perm_a7 {α : Type} (n a b c d e f : α) : [n, a, b, c, d, e, f].Perm [n, b, c, d, e, f, a] := by
  classical
  rw [List.perm_iff_count]
  intro x
  simp only [List.count_cons, List.count_nil]
  omega
theorem pack_step {w w7 : World} {A7 Ao A : Option Addr} {n7 c7 no co k c b : Nat} {xs : List Int} {l : List Val} {at_ : List Int} {X Y : Item} {rest : List Item} (hn : no ≤ 1000) (hk : k ≤ 1000) (h7 : n7 ≤ 1000)
    (hS : Sep No w w7 (rowI 24 1 A7 n7 c7 (u64s xs) :: rowI 2 1 A k c (ints at_) :: X :: Y :: blkI b 108 #[.slice A k c] :: rest)) (hl : Rd w (fun _ => True) 2 Ao no (vals l)) (hv : ∀ v ∈ l, v.1 = true → 0 ≤ v.2 ∧ v.2 < k) :
    Calls Try.prog 59 #[.slice A7 n7 c7, .slice Ao no co, .pointer (some ⟨b, 0, none⟩)] w7 fun e w8 => ∃ A8 c8, e = .returned (.slice A8 (n7 + no) c8) ∧
      Sep No w w8 (rowI 24 1 A8 (n7 + no) c8 (u64s (xs ++ l.map (packV at_))) :: rowI 2 1 A k c (ints at_) :: X :: Y :: blkI b 108 #[.slice A k c] :: rest) := by
  refine (pack_any w7 (fun g => ¬ (rowI 24 1 A7 n7 c7 (u64s xs)).fp g) A7 Ao A n7 c7 no co k c b xs l at_ hn hk h7 (hS.get 0 rfl) (fun g hg hn => hn hg) (hS.get 4 rfl)
    (fun hg => hS.other (a := 0) (b := 4) rfl rfl (by omega) b hg rfl)
    (((hl.more (D' := fun g => g < w.heap.size) (fun k hk _ => hk)).below hS.below_).more (fun g _ hg hf => by
      rcases hS.lo 0 rfl g hf with h | h
      · exact h
      · omega))
    (Rd.of_own (show w7.ownsRow 0 2 1 (.slice A k c) k (ints at_) from hS.get 1 rfl) (fun g hg hf => hS.other (a := 0) (b := 1) rfl rfl (by omega) g hf (by subst hg; rfl))) hv).mono ?_
  rintro e w8 ⟨A8, c8, rfl, hP⟩
  exact ⟨A8, c8, rfl, hS.call 0 rfl hP⟩

set_option maxHeartbeats 4000000 in
theorem lay_bad (w : World) (AO AR : Option Addr) (nO cO nR cR : Nat) (obs : List Ob) (roots : List Val) (x : Int) (hx : gcheck nO nR obs roots = x) (hx0 : x ≠ 0) (hO : ObsRd w (fun _ => True) AO nO obs) (hR : Rd w (fun _ => True) 2 AR nR (vals roots)) :
    Calls Try.prog 26 #[.agg #[.slice AO nO cO, .slice AR nR cR]] w fun e w' => e = .returned (.tuple #[.agg #[.slice none 0 0, .slice none 0 0], .int .i64 x]) ∧ Below w.heap.size w w' := by
  have hB0 : Below w.heap.size w ((w.alloc (.cells #[.slice AO nO cO, .slice AR nR cR] 52)).alloc (.cells #[.slice none 0 0, .slice none 0 0] 55)) := ((Below.refl _ w).alloc (Nat.le_refl _) _).alloc (by simp) _
  have C := hide (graphCheck_any _ AO AR nO cO nR cR obs roots (hO.below hB0) (hR.below hB0))
  rw [hx] at C
  have bR := (Blk.new (w.alloc (.cells #[.slice AO nO cO, .slice AR nR cR] 52)) 55 #[.slice none 0 0, .slice none 0 0])
  rw [World.size_alloc] at bR
  have BR := hide bR
  have HB0 := hide hB0
  have y1 : (x != 0) = true := by rw [bne_iff_ne]; exact hx0
  clear hx hx0 hO hR hB0 bR
  go_enter Try.func26, Try.ntmps26
  go_wp2_with fail
  refine C.out.mono ?_
  rintro e w1 ⟨rfl, hb1⟩
  have bR1 := BR.out.below_ hb1
  obtain ⟨r1, r2, r3⟩ := bR1.rules
  have hz := hb1.size
  simp at hz
  have hB1 := HB0.out.trans (hb1.mono (by simp; omega))
  go_wp2_with fail
  refine bodyPost_ret (v := .tuple #[.agg #[.slice none 0 0, .slice none 0 0], .int .i64 x]) (by simp [results, Try.results26, go_sem, r1]) rfl ⟨rfl, ?_⟩
  exact (hB1.setCell (p := ⟨w.heap.size + 1, 0, none⟩) (by simp) _).setCell (p := ⟨w.heap.size + 1, 1, none⟩) (by simp) _

set_option maxRecDepth 100000 in
set_option maxHeartbeats 16000000 in
theorem lay_ok (w : World) (AO AR : Option Addr) (nO cO nR cR : Nat) (obs : List Ob) (roots : List Val) (hx : gcheck nO nR obs roots = 0) (hO : ObsRd w (fun _ => True) AO nO obs) (hR : Rd w (fun _ => True) 2 AR nR (vals roots)) (h1 : nO ≤ 24) (h2 : nR ≤ 8) (hfl : ∀ o ∈ obs, o.n ≤ 4)
    (hvO : ∀ o ∈ obs, ∀ v ∈ o.fields, v.1 = true → 0 ≤ v.2 ∧ v.2 < nO) (hvR : ∀ v ∈ roots, v.1 = true → 0 ≤ v.2 ∧ v.2 < nO) :
    Calls Try.prog 26 #[.agg #[.slice AO nO cO, .slice AR nR cR]] w fun e w' => ∃ v, e = .returned (.tuple #[v, .int .i64 0]) ∧ Below w.heap.size w w' ∧ ArenaRd w w' v (wordsL (atL obs nO) obs) (roots.map (packV (atL obs nO))) := by
  have HOL := hide hO.len
  have HSB := hide (fun k => sAt_bound obs k hfl)
  have HFL := hide hfl
  have HVO := hide hvO
  have HVR := hide hvR
  have hS0 := (((Sep.nil No w).blkAt 52 #[.slice AO nO cO, .slice AR nR cR] rfl).blkAt 55 #[.slice none 0 0, .slice none 0 0] (g := w.heap.size + 1) (by simp))
  have C := hide (graphCheck_any _ AO AR nO cO nR cR obs roots (hO.below hS0.below_) (hR.below hS0.below_))
  rw [hx] at C
  have HS0 := hide hS0
  clear hfl hvO hvR hx hS0
  go_enter Try.func26, Try.ntmps26
  go_wp2_with fail
  refine C.out.mono ?_
  rintro e w1 ⟨rfl, hb1⟩
  have hS1 := HS0.out.below hb1
  obtain ⟨g1, g2, g3, g4⟩ := hS1.rules 0 (g := w.heap.size) (t := 52) rfl
  have HS1 := hide ((hS1.blkAt 108 #[.slice none 0 0] rfl).nilRow0 2 1)
  clear C HS0 hb1 hS1
  go_wp2_with fail
  clear g1 g2 g3 g4
  go_loopw [6, 24] (fun s6 i wr => ∃ (k : Nat) (A : Option Addr) (c : Nat), k ≤ nO ∧ i = .int .i64 k ∧ s6 = .int .i64 (sAt obs k) ∧ Sep No w wr [rowI 2 1 A k c (ints (atL obs k)), blkI w.heap.size 52 #[.slice AO nO cO, .slice AR nR cR], blkI (w.heap.size + 1) 55 #[.slice none 0 0, .slice none 0 0], blkI w1.heap.size 108 #[.slice A k c]]) (fun _ i _ => nO - (intOf i).toNat)
  case atStart => exact ⟨0, none, 0, by omega, rfl, by simp [sAt], by simpa [atL] using HS1.out⟩
  case round =>
    clear HS1
    obtain ⟨k, A, c, hk, rfl, rfl, hS⟩ := hrel
    by_cases hlt : k < nO
    · have hkl : k < obs.length := by rw [HOL.out]; exact hlt
      obtain ⟨ad, hA, _, had, hc⟩ := (hO.below hS.below_).row.at_ hlt
      have e0 := hc obs[k].val (by simp [List.getElem?_eq_getElem hkl])
      have hon := HFL.out _ (List.getElem_mem hkl)
      have HT := hide (List.take_succ_eq_append_getElem hkl)
      obtain ⟨o, ho⟩ : ∃ o, obs[k] = o := ⟨_, rfl⟩
      rw [ho] at e0 HT hon
      have HA := hide (sAt_succ obs k o HT.out)
      unfold Ob.val at e0
      subst hA
      obtain ⟨b1, b2⟩ := HSB.out k
      obtain ⟨y, hy⟩ : ∃ y, sAt obs k = y := ⟨_, rfl⟩
      have HY := hide hy
      rw [hy] at b1 b2 ⊢
      have hS5 := hS.blkAt 110 #[.slice o.A o.n o.c] rfl
      obtain ⟨a1, a2, a3, a4⟩ := hS.rules 3 (g := w1.heap.size) (t := 108) rfl
      have hneA : w1.heap.size ≠ wr.heap.size := by omega
      clear hc ho hy
      go_wp2_with (first
        | (at_builtin
           refine wpList_app1 (cs := #[.int .i64 y]) rfl (.tmp 28) (.tmp 30) 108 rfl sI64 hS5 0 (n := k) rfl rfl rfl (by simp) rfl rfl (by omega) ?_
           intro A4 c4 w4 hS4 hC4
           obtain ⟨z1, z2, z3, z4⟩ := hS4.rules 3 (g := w1.heap.size) (t := 108) rfl
           (have z5 : ∀ v, (w4.setCell ⟨w1.heap.size, 0, none⟩ v).cell? ⟨wr.heap.size, 0, none⟩ = some (.slice o.A o.n o.c) := fun v => by
              rw [World.cell?_setCell_other _ _ _ _ (fun e => hneA (congrArg Addr.block e))]
              obtain ⟨q1, _⟩ := hS4.rules 4 (g := wr.heap.size) (t := 110) rfl
              rw [q1]; rfl)))
      have hS6 := (hS4.set_ 3 (g := w1.heap.size) (t := 108) rfl 0 (.slice A4 (k + 1) c4)).sub (List.take_sublist 4 _)
      go_roundw
      case rel =>
        refine ⟨k + 1, A4, c4, by omega, by go_num, ?_, ?_⟩
        · rw [HA.out, HY.out] <;> go_num
        · rw [atL_succ, HY.out, ints_snoc]; exact hS6
      case measure => simp [intOf]; omega
    · obtain rfl : k = nO := by omega
      obtain ⟨g1, g2, g3, g4⟩ := hS.rules 1 (g := w.heap.size) (t := 52) rfl
      obtain ⟨wo, rfl⟩ : ∃ wo : World, wo = wr := ⟨_, rfl⟩
      have HS4 := hide ((hS.blkAt 55 #[.slice none 0 0, .slice none 0 0] rfl).nilRow0 24 1)
      clear hS
      go_wp2_with fail
      clear g1 g2 g3 g4
      go_loopw [43] (fun i w5 => ∃ (j m : Nat) (Aw : Option Addr) (cw : Nat), j ≤ k ∧ i = .int .i64 j ∧ Sep No w w5 [rowI 24 1 Aw m cw (u64s (wordsL (atL obs k) (obs.take j))), rowI 2 1 A k c (ints (atL obs k)), blkI w.heap.size 52 #[.slice AO k cO, .slice AR nR cR], blkI (w.heap.size + 1) 55 #[.slice none 0 0, .slice none 0 0], blkI w1.heap.size 108 #[.slice A k c], blkI wo.heap.size 55 #[.slice Aw m cw, .slice none 0 0]]) (fun i _ => k - (intOf i).toNat)
      case atStart => exact ⟨0, 0, none, 0, by omega, rfl, HS4.out⟩
      case round =>
        clear HS4
        obtain ⟨j, m, Aw, cw, hj, rfl, hS⟩ := hrel
        have hm := u64s_row hS 0 rfl
        have hml := wordsL_len (atL obs k) (obs.take j) (fun o ho => by
          have h5 := List.mem_of_mem_take ho
          rw [hO.flen h5]
          exact HFL.out o h5)
        have hm2 : m ≤ 5 * j := by
          rw [List.length_take] at hml
          omega
        clear hm hml
        by_cases hlt2 : j < k
        · have hjl : j < obs.length := by rw [HOL.out]; exact hlt2
          obtain ⟨ad, hA, _, had, hc⟩ := (hO.below hS.below_).row.at_ hlt2
          have e0 := hc obs[j].val (by simp [List.getElem?_eq_getElem hjl])
          have hon := HFL.out _ (List.getElem_mem hjl)
          have hEach := hO.each _ (List.getElem_mem hjl)
          have hVo := HVO.out _ (List.getElem_mem hjl)
          have hFl := hO.flen (List.getElem_mem hjl)
          have HT := hide (List.take_succ_eq_append_getElem hjl)
          obtain ⟨o, ho⟩ : ∃ o, obs[j] = o := ⟨_, rfl⟩
          rw [ho] at e0 HT hon hEach hVo hFl
          unfold Ob.val at e0
          subst hA
          have HVo := hide hVo
          have hS5 := hS.blkAt 110 #[.slice o.A o.n o.c] rfl
          clear hc ho hVo
          go_wp2_with fail
          refine (head14_ok _ (o.n : Int) 0 false (by omega) (by omega) (by omega) (by omega)).mono ?_
          rintro e w6 ⟨rfl, hB6⟩
          have hS6 := hS5.below hB6
          clear hS5 hB6 e0 had hS
          obtain ⟨a1, a2, a3, a4⟩ := hS6.rules 5 (g := wo.heap.size) (t := 55) rfl
          obtain ⟨q1, q2, q3, q4⟩ := hS6.rules 6 (g := wr.heap.size) (t := 110) rfl
          have hSb : Sep No w w6 (rowI 24 1 Aw m cw (u64s (wordsL (atL obs k) (obs.take j))) :: rowI 2 1 A k c (ints (atL obs k)) :: blkI w.heap.size 52 #[.slice (some ad) k cO, .slice AR nR cR] :: blkI (w.heap.size + 1) 55 #[.slice none 0 0, .slice none 0 0] :: blkI w1.heap.size 108 #[.slice A k c] :: blkI wo.heap.size 55 #[.slice Aw m cw, .slice none 0 0] :: [blkI wr.heap.size 110 #[.slice o.A o.n o.c]]) := hS6
          have a5 : w6.cell? ⟨wo.heap.size, 0, none⟩ = some (.slice Aw m cw) := by rw [a1]; rfl
          have q5 : w6.cell? ⟨wr.heap.size, 0, none⟩ = some (.slice o.A o.n o.c) := by rw [q1]; rfl
          clear a1 q1 a4 q4 hS6 HFL HSB HVO HVR
          go_wp2_with fail
          go_region_law (first
            | (refine step_app1d (cs := #[.int .u64 (headW o.n false 0)]) rfl (.tmp 57) (.tmp 59) 53 rfl (F := No) (W := w) sWord (items := rowI 24 1 Aw m cw (u64s (wordsL (atL obs k) (obs.take j))) :: rowI 2 1 A k c (ints (atL obs k)) :: blkI w.heap.size 52 #[.slice (some ad) k cO, .slice AR nR cR] :: blkI (w.heap.size + 1) 55 #[.slice none 0 0, .slice none 0 0] :: blkI w1.heap.size 108 #[.slice A k c] :: blkI wo.heap.size 55 #[.slice Aw m cw, .slice none 0 0] :: [blkI wr.heap.size 110 #[.slice o.A o.n o.c]]) hSb 0 (n := m) rfl rfl rfl (by simp) rfl rfl (by omega) ?_
               intro A7 c7 w7 hS7 hC7
               (have hS7' : Sep No w w7 (rowI 24 1 A7 (m + 1) c7 (u64s (wordsL (atL obs k) (obs.take j) ++ [headW o.n false 0])) :: rowI 2 1 A k c (ints (atL obs k)) :: blkI w.heap.size 52 #[.slice (some ad) k cO, .slice AR nR cR] :: blkI (w.heap.size + 1) 55 #[.slice none 0 0, .slice none 0 0] :: blkI w1.heap.size 108 #[.slice A k c] :: blkI wo.heap.size 55 #[.slice Aw m cw, .slice none 0 0] :: [blkI wr.heap.size 110 #[.slice o.A o.n o.c]]) := by rw [u64s_snoc]; exact hS7)
               obtain ⟨i1, i2, i3, i4⟩ := hS7'.rules 5 (g := wo.heap.size) (t := 55) rfl
               obtain ⟨j1, j2, j3, j4⟩ := hS7'.rules 6 (g := wr.heap.size) (t := 110) rfl
               (have j5 : w7.cell? ⟨wr.heap.size, 0, none⟩ = some (.slice o.A o.n o.c) := by rw [j1]; rfl)
               clear hS7 hC7 i1 j1)
            | (go_simp
               go_at_call 59
               refine (pack_step (co := o.c) (by omega) (by omega) (by omega) hS7' hEach HVo.out).mono ?_
               rintro e w8 ⟨A8, c8, rfl, hS8⟩
               obtain ⟨z1, z2, z3, z4⟩ := hS8.rules 5 (g := wo.heap.size) (t := 55) rfl))
          all_goals
            go_wp2_with fail
            go_roundw
            case rel =>
              refine ⟨j + 1, m + 1 + o.n, A8, c8, by omega, by go_num, ?_⟩
              rw [HT.out, wordsL_snoc, List.append_cons]
              have hS' := (hS8.set_ 5 (g := wo.heap.size) (t := 55) rfl 0 (.slice A8 (m + 1 + o.n) c8)).sub (List.take_sublist 6 _)
              exact hS'
            case measure => simp [intOf]; omega
        · obtain rfl : j = k := by omega
          rw [show obs.take j = obs from List.take_of_length_le (by rw [HOL.out]; omega)] at hS
          obtain ⟨g1, g2, g3, g4⟩ := hS.rules 2 (g := w.heap.size) (t := 52) rfl
          have hS5 := (hS.nilRow0 24 1)
          have hS6 := hS5.perm (perm_a7 _ _ _ _ _ _ _)
          go_wp2_with fail
          refine (pack_step (xs := []) (co := cR) (by omega) (by omega) (by omega) hS6 hR HVR.out).mono ?_
          rintro e w8 ⟨A8, c8, rfl, hS8⟩
          rw [Nat.zero_add, List.nil_append] at hS8
          rw [Nat.zero_add]
          obtain ⟨a1, a2, a3, a4⟩ := hS8.rules 5 (g := wo.heap.size) (t := 55) rfl
          have hS9 := hS8.set_ 5 (g := wo.heap.size) (t := 55) rfl 1 (.slice A8 nR c8)
          obtain ⟨_, y2, y3, y4⟩ := hS8.rules 3 (g := w.heap.size + 1) (t := 55) rfl
          obtain ⟨y1, _, _, _⟩ := hS9.rules 3 (g := w.heap.size + 1) (t := 55) rfl
          clear g1 g2 g3 g4 hS hS5 hS6
          go_wp2_with fail
          have hF := (hS9.set_ 3 (g := w.heap.size + 1) (t := 55) rfl 0 (.slice Aw m cw)).set_ 3 (g := w.heap.size + 1) (t := 55) rfl 1 (.slice A8 nR c8)
          refine bodyPost_ret (v := .tuple #[.agg #[.slice Aw m cw, .slice A8 nR c8], .int .i64 0]) (by simp [results, Try.results26, go_sem, y1]) rfl ⟨_, rfl, hF.below_, ?_⟩
          exact ⟨_, _, _, _, _, _, rfl, hF.rd 6 rfl, hF.rd 0 rfl⟩
end Go.Proofs.Ytpbafmdebflbpaa

namespace Go.Proofs.Ytpbafmdebflbpaa
open Go.RowKit

theorem gcheck_zero {nO nR : Nat} {obs : List Ob} {roots : List Val} (h : gcheck nO nR obs roots = 0) :
    nO ≤ 24 ∧ nR ≤ 8 ∧ (∀ o ∈ obs, o.n ≤ 4) ∧ ∀ v ∈ allVals obs roots, v.1 = true → 0 ≤ v.2 ∧ v.2 < nO := by
  unfold gcheck at h
  split at h
  · omega
  rename_i h1
  split at h
  · omega
  rename_i h2
  refine ⟨by omega, by omega, fun o ho => ?_, fun v hv hv1 => ?_⟩
  · have h3 : obs.any large = false := by
      cases h4 : obs.any large with
      | false => rfl
      | true => exact absurd (Or.inr (Or.inr h4)) h1
    have h5 := List.any_eq_false.1 h3 o ho
    unfold large at h5
    simp at h5
    omega
  · have h3 : (allVals obs roots).any (badArg nO) = false := by
      cases h4 : (allVals obs roots).any (badArg nO) with
      | false => rfl
      | true => exact absurd h4 h2
    have h5 := List.any_eq_false.1 h3 v hv
    unfold badArg at h5
    rw [hv1] at h5
    simp at h5
    omega

set_option maxHeartbeats 800000 in
theorem words_same (w : World) (D D' : Nat → Prop) (A A' : Option Addr) (n c c' : Nat) (xs : List Int) (hn : n ≤ 9223372036854775807)
    (h : Rd w D 1 A n (u64s xs)) (h' : Rd w D' 1 A' n (u64s xs)) :
    Calls Try.prog 62 #[.slice A n c, .slice A' n c'] w fun e w' => e = .returned (.bool true) ∧ Below w.heap.size w w' := by
  have HL := hide (show xs.length = n by have := h.1; simpa [u64s] using this)
  go_enter Try.func62, Try.ntmps62
  go_wp2_with fail
  go_loopw [5] (fun i wr => ∃ k : Nat, k ≤ n ∧ i = .int .i64 k ∧ Below w.heap.size w wr) (fun i _ => n - (intOf i).toNat)
  case atStart => exact ⟨0, by omega, rfl, Below.refl _ _⟩
  case round =>
    obtain ⟨k, hk, rfl, hB⟩ := hrel
    by_cases hlt : k < n
    · have hkl : k < xs.length := by rw [HL.out]; exact hlt
      obtain ⟨ad, hA, _, had, hc⟩ := (h.below hB).at_ hlt
      obtain ⟨ad', hA', _, had', hc'⟩ := (h'.below hB).at_ hlt
      have e0 := hc (.int .u64 xs[k]) (by simp [u64s, List.getElem?_eq_getElem hkl])
      have e1 := hc' (.int .u64 xs[k]) (by simp [u64s, List.getElem?_eq_getElem hkl])
      obtain ⟨x, hx⟩ : ∃ x, xs[k] = x := ⟨_, rfl⟩
      rw [hx] at e0 e1
      subst hA hA'
      clear hc hc' hx
      go_wp2_with fail
      go_quiet (fail)
      go_wp2_with fail
      go_roundw
      case rel => exact ⟨k + 1, by omega, by go_num, below_drewN hB _⟩
      case measure => simp [intOf]; omega
    · go_wp2_with fail
      go_ret
      exact ⟨rfl, hB⟩

theorem arenas_any (w w1 w2 : World) (v v' : Value) (a b : List Int) (ha : a.length ≤ 1000) (hb : b.length ≤ 1000) (h : ArenaRd w1 w v a b) (h' : ArenaRd w2 w v' a b) :
    Calls Try.prog 28 #[v, v'] w fun e w' => e = .returned (.bool true) ∧ Below w.heap.size w w' := by
  obtain ⟨A1, n1, c1, A2, n2, c2, rfl, f1, f2⟩ := h
  obtain ⟨B1, m1, d1, B2, m2, d2, rfl, g1, g2⟩ := h'
  have l1 : a.length = n1 := by have := f1.1; simpa [u64s] using this
  have l2 : b.length = n2 := by have := f2.1; simpa [u64s] using this
  have e1 : a.length = m1 := by have := g1.1; simpa [u64s] using this
  have e2 : b.length = m2 := by have := g2.1; simpa [u64s] using this
  subst l1 l2 e1 e2
  have hB0 : Below w.heap.size w ((w.alloc (.cells #[.slice A1 a.length c1, .slice A2 b.length c2] 55)).alloc (.cells #[.slice B1 a.length d1, .slice B2 b.length d2] 55)) := ((Below.refl _ w).alloc (Nat.le_refl _) _).alloc (by simp) _
  have C1 := hide (words_same _ _ _ A1 B1 a.length c1 d1 a (by omega) (f1.below hB0) (g1.below hB0))
  have HB0 := hide hB0
  have b1 := (Blk.new w 55 #[.slice A1 a.length c1, .slice A2 b.length c2]).alloc (.cells #[.slice B1 a.length d1, .slice B2 b.length d2] 55)
  have b2 := Blk.new (w.alloc (.cells #[.slice A1 a.length c1, .slice A2 b.length c2] 55)) 55 #[.slice B1 a.length d1, .slice B2 b.length d2]
  rw [World.size_alloc] at b2
  have HB1 := hide b1
  have HB2 := hide b2
  clear b1 b2 hB0 f1 g1
  go_enter Try.func28, Try.ntmps28
  go_wp2_with fail
  refine C1.out.mono ?_
  rintro e w3 ⟨rfl, hB3⟩
  obtain ⟨i1, i2, i3⟩ := (HB1.out.below_ hB3).rules
  obtain ⟨j1, j2, j3⟩ := (HB2.out.below_ hB3).rules
  have hz := hB3.size
  simp at hz
  have hB4 := HB0.out.trans (hB3.mono (by simp; omega))
  go_wp2_with fail
  refine (words_same _ _ _ A2 B2 b.length c2 d2 b (by omega) (f2.below hB4) (g2.below hB4)).mono ?_
  rintro e w4 ⟨rfl, hB5⟩
  go_wp2_with fail
  go_ret
  exact ⟨rfl, hB4.trans (hB5.mono (by omega))⟩

theorem ArenaRd.below {w0 w w' : World} {v : Value} {a b : List Int} (h : ArenaRd w0 w v a b) (hb : Below w.heap.size w w') : ArenaRd w0 w' v a b := by
  obtain ⟨A1, n1, c1, A2, n2, c2, rfl, h1, h2⟩ := h
  exact ⟨_, _, _, _, _, _, rfl, h1.below hb, h2.below hb⟩
theorem ArenaRd.nil (w0 w : World) : ArenaRd w0 w (.agg #[.slice none 0 0, .slice none 0 0]) [] [] := ⟨none, 0, 0, none, 0, 0, rfl, Rd.nil, Rd.nil⟩

set_option maxRecDepth 100000 in
set_option maxHeartbeats 4000000 in
theorem arenaLays_walk (w : World) (AO AR : Option Addr) (nO cO nR cR : Nat) (obs : List Ob) (roots : List Val) (hO : ObsRd w (fun _ => True) AO nO obs) (hR : Rd w (fun _ => True) 2 AR nR (vals roots)) :
    Calls Try.prog 6 #[.agg #[.slice AO nO cO, .slice AR nR cR]] w fun e w' => e = .returned (.bool true) ∧ Below w.heap.size w w' := by
  have hB0 : Below w.heap.size w (w.alloc (.cells #[.slice AO nO cO, .slice AR nR cR] 52)) := (Below.refl _ w).alloc (Nat.le_refl _) _
  have bG := Blk.new w 52 #[.slice AO nO cO, .slice AR nR cR]
  by_cases hbad : gcheck nO nR obs roots = 0
  · obtain ⟨h1, h2, hfl, hv⟩ := gcheck_zero hbad
    have hvO : ∀ o ∈ obs, ∀ v ∈ o.fields, v.1 = true → 0 ≤ v.2 ∧ v.2 < nO := fun o ho v hv1 => hv v (by unfold allVals; exact List.mem_append.2 (.inr (List.mem_flatMap.2 ⟨o, ho, hv1⟩)))
    have hvR : ∀ v ∈ roots, v.1 = true → 0 ≤ v.2 ∧ v.2 < nO := fun v hv1 => hv v (by unfold allVals; exact List.mem_append.2 (.inl hv1))
    have c1 := lay_ok _ AO AR nO cO nR cR obs roots hbad (hO.below hB0) (hR.below hB0) h1 h2 hfl hvO hvR
    have c2 := fun w' (hb : Below w.heap.size w w') => refCheck_any w' AO AR nO cO nR cR obs roots (hO.below hb) (hR.below hb)
    have c3 := fun w' (hb : Below w.heap.size w w') => plain_any w' AO AR nO cO nR cR obs (hO.below hb) h1
    have c4 := fun w' (hb : Below w.heap.size w w') AH cH (hH : Rd w' (fun _ => True) 3 AH nO (vheads obs)) => refLay_any w' AO AR AH nO cO nR cR cH obs roots (hO.below hb) (hR.below hb) hH h1 h2 hfl hvO hvR
    rw [hbad] at c2
    have lw : (wordsL (atL obs nO) obs).length ≤ 1000 := by
      have := wordsL_len (atL obs nO) obs (fun o ho => by rw [hO.flen ho]; exact hfl o ho)
      have := hO.len
      omega
    have lr : (roots.map (packV (atL obs nO))).length ≤ 1000 := by
      have := hR.1
      rw [vals_length] at this
      rw [List.length_map]; omega
    obtain ⟨ws, hws⟩ : ∃ ws, wordsL (atL obs nO) obs = ws := ⟨_, rfl⟩
    obtain ⟨rs, hrs⟩ : ∃ rs, roots.map (packV (atL obs nO)) = rs := ⟨_, rfl⟩
    rw [hws] at lw
    rw [hrs] at lr
    rw [hws, hrs] at c1
    simp only [hws, hrs] at c4
    have C1 := hide c1
    have C2 := hide c2
    have C3 := hide c3
    have C4 := hide c4
    have HB0 := hide hB0
    have BG := hide bG
    have LW := hide lw
    have LR := hide lr
    clear c1 c2 c3 c4 hws hrs hbad h1 h2 hfl hv hvO hvR hO hR hB0 bG lw lr
    go_enter Try.func6, Try.ntmps6
    go_wp2_with fail
    refine C1.out.mono ?_
    rintro e w1 ⟨v, rfl, hb1, hA1⟩
    obtain ⟨A1, n1, c1, A2, n2, c2, rfl, f1, f2⟩ := hA1
    have bG1 := BG.out.below_ hb1
    have hB1 := HB0.out.trans (hb1.mono (by simp))
    obtain ⟨g1, g2, g3⟩ := bG1.rules
    have hz1 := hB1.size
    go_wp2_with fail
    refine (C2.out _ (hB1.alloc hz1 _)).mono ?_
    rintro e w2 ⟨rfl, hb2⟩
    have hz2 := hb2.size
    simp at hz2
    have hB2 := (hB1.alloc hz1 (.cells #[.slice A1 n1 c1, .slice A2 n2 c2] 55)).trans (hb2.mono (by simp; omega))
    have bG2 := (bG1.alloc (.cells #[.slice A1 n1 c1, .slice A2 n2 c2] 55)).below_ hb2
    have bA2 := (Blk.new w1 55 #[.slice A1 n1 c1, .slice A2 n2 c2]).below_ hb2
    have hA2 : ArenaRd (w.alloc (.cells #[.slice AO nO cO, .slice AR nR cR] 52)) w2 (.agg #[.slice A1 n1 c1, .slice A2 n2 c2]) ws rs := ArenaRd.below ⟨A1, n1, c1, A2, n2, c2, rfl, f1, f2⟩ (((Below.refl _ w1).alloc (Nat.le_refl _) _).trans (hb2.mono (by simp)))
    have s0 : w2.cell? ⟨w.heap.size, 0, none⟩ = some (.slice AO nO cO) := by rw [bG2.cell]; rfl
    have s1 : w2.cell? ⟨w.heap.size, 1, none⟩ = some (.slice AR nR cR) := by rw [bG2.cell]; rfl
    have s2 : w2.cell? ⟨w1.heap.size, 0, none⟩ = some (.slice A1 n1 c1) := by rw [bA2.cell]; rfl
    have s3 : w2.cell? ⟨w1.heap.size, 1, none⟩ = some (.slice A2 n2 c2) := by rw [bA2.cell]; rfl
    have hzw := hB2.size
    clear g1 g2 g3 f1 f2 hb1 hb2 C1 C2
    go_wp2_with fail
    go_region_held3 (fun w' => w'.cell? ⟨w.heap.size, 0, none⟩ = some (.slice AO nO cO) ∧ w'.cell? ⟨w.heap.size, 1, none⟩ = some (.slice AR nR cR) ∧ w'.cell? ⟨w1.heap.size, 0, none⟩ = some (.slice A1 n1 c1) ∧ w'.cell? ⟨w1.heap.size, 1, none⟩ = some (.slice A2 n2 c2))
      (first | (refine ⟨?_, ?_, ?_, ?_⟩ <;> assumption) | go_keep) (first
      | (go_at_call 30
         refine (C3.out _ (by first | exact hB2.drew | exact hB2)).mono ?_
         rintro e w4 ⟨AH, cH, rfl, hSP⟩
         have hB4 := hB2.drew.trans (hSP.below_.mono hzw)
         have hz4 := hB4.size
         have bG4 := bG2.drew.below_ hSP.below_
         have bA4 := bA2.drew.below_ hSP.below_
         (have hA4 : ArenaRd (w.alloc (.cells #[.slice AO nO cO, .slice AR nR cR] 52)) w4 (.agg #[.slice A1 n1 c1, .slice A2 n2 c2]) ws rs := hA2.below ((Below.refl _ w2).drew.trans hSP.below_))
         (have t0 : w4.cell? ⟨w.heap.size, 0, none⟩ = some (.slice AO nO cO) := by rw [bG4.cell]; rfl)
         (have t1 : w4.cell? ⟨w.heap.size, 1, none⟩ = some (.slice AR nR cR) := by rw [bG4.cell]; rfl)
         (have t2 : w4.cell? ⟨w1.heap.size, 0, none⟩ = some (.slice A1 n1 c1) := by rw [bA4.cell]; rfl)
         (have t3 : w4.cell? ⟨w1.heap.size, 1, none⟩ = some (.slice A2 n2 c2) := by rw [bA4.cell]; rfl))
      | (go_at_call 29
         refine (C4.out _ hB4 AH cH (hSP.rd_ 0 rfl)).mono ?_
         rintro e w5 ⟨v5, rfl, hb5, hA5⟩
         have hB5 := hB4.trans (hb5.mono hz4)
         have hz5 := hB5.size
         have bG5 := bG4.below_ hb5
         have bA5 := bA4.below_ hb5
         (have hA45 : ArenaRd (w.alloc (.cells #[.slice AO nO cO, .slice AR nR cR] 52)) w5 (.agg #[.slice A1 n1 c1, .slice A2 n2 c2]) ws rs := hA4.below hb5)
         (have u0 : w5.cell? ⟨w.heap.size, 0, none⟩ = some (.slice AO nO cO) := by rw [bG5.cell]; rfl)
         (have u1 : w5.cell? ⟨w.heap.size, 1, none⟩ = some (.slice AR nR cR) := by rw [bG5.cell]; rfl)
         (have u2 : w5.cell? ⟨w1.heap.size, 0, none⟩ = some (.slice A1 n1 c1) := by rw [bA5.cell]; rfl)
         (have u3 : w5.cell? ⟨w1.heap.size, 1, none⟩ = some (.slice A2 n2 c2) := by rw [bA5.cell]; rfl))
      | (go_at_call 28
         refine (arenas_any w5 _ _ _ _ ws rs LW.out LR.out hA45 hA5).mono ?_
         rintro e w6 ⟨rfl, hb6⟩
         have hB6 := hB5.trans (hb6.mono hz5)
         have bG6 := bG5.below_ hb6
         have bA6 := bA5.below_ hb6
         (have x0 : w6.cell? ⟨w.heap.size, 0, none⟩ = some (.slice AO nO cO) := by rw [bG6.cell]; rfl)
         (have x1 : w6.cell? ⟨w.heap.size, 1, none⟩ = some (.slice AR nR cR) := by rw [bG6.cell]; rfl)
         (have x2 : w6.cell? ⟨w1.heap.size, 0, none⟩ = some (.slice A1 n1 c1) := by rw [bA6.cell]; rfl)
         (have x3 : w6.cell? ⟨w1.heap.size, 1, none⟩ = some (.slice A2 n2 c2) := by rw [bA6.cell]; rfl)))
    all_goals
      go_wp2_with fail
      go_ret
      exact ⟨rfl, hB6⟩
  · obtain ⟨x, hx⟩ : ∃ x, gcheck nO nR obs roots = x := ⟨_, rfl⟩
    have c1 := lay_bad _ AO AR nO cO nR cR obs roots x hx (by rw [← hx]; exact hbad) (hO.below hB0) (hR.below hB0)
    have c2 := fun w' (hb : Below w.heap.size w w') => refCheck_any w' AO AR nO cO nR cR obs roots (hO.below hb) (hR.below hb)
    rw [hx] at c2 hbad
    have y1 : (x != 0) = true := by rw [bne_iff_ne]; exact hbad
    have C1 := hide c1
    have C2 := hide c2
    have HB0 := hide hB0
    have BG := hide bG
    clear c1 c2 hx hbad hO hR hB0 bG
    go_enter Try.func6, Try.ntmps6
    go_wp2_with fail
    refine C1.out.mono ?_
    rintro e w1 ⟨rfl, hb1⟩
    have bG1 := BG.out.below_ hb1
    have hB1 := HB0.out.trans (hb1.mono (by simp))
    obtain ⟨g1, g2, g3⟩ := bG1.rules
    have hz1 := hB1.size
    go_wp2_with fail
    refine (C2.out _ (hB1.alloc hz1 _)).mono ?_
    rintro e w2 ⟨rfl, hb2⟩
    have hz2 := hb2.size
    simp at hz2
    have hB2 := (hB1.alloc hz1 (.cells #[.slice none 0 0, .slice none 0 0] 55)).trans (hb2.mono (by simp; omega))
    obtain ⟨a1, a2, a3⟩ := ((Blk.new w1 55 #[.slice none 0 0, .slice none 0 0]).below_ hb2).rules
    clear g1 g2 g3
    go_wp2_with fail
    refine (arenas_any w2 w2 w2 _ _ [] [] (by simp) (by simp) (ArenaRd.nil _ _) (ArenaRd.nil _ _)).mono ?_
    rintro e w3 ⟨rfl, hb3⟩
    have hz3 := hB2.size
    go_wp2_with fail
    go_ret
    exact ⟨rfl, hB2.trans (hb3.mono (by omega))⟩
end Go.Proofs.Ytpbafmdebflbpaa

namespace Go.Proofs.Ytpbafmdebflbpaa
open Go.RowKit

theorem arenas_nil_ (w : World) : ArenaRd w w (.agg #[.slice none 0 0, .slice none 0 0]) [] [] := ⟨_, _, _, _, _, _, rfl, Rd.nil, Rd.nil⟩
theorem arn_rd {W w : World} {n1 n2 c1 c2 : Nat} {A1 A2 : Option Addr} {a b : List Int} (h : Sep No W w [rowI 24 1 A1 n1 c1 (u64s a), rowI 24 1 A2 n2 c2 (u64s b)]) : ArenaRd W w (.agg #[.slice A1 n1 c1, .slice A2 n2 c2]) a b := ⟨_, _, _, _, _, _, rfl, h.rd 0 rfl, h.rd 1 rfl⟩

set_option maxRecDepth 100000 in
set_option maxHeartbeats 4000000 in
theorem mark_bad (w : World) (AW AR : Option Addr) (nW cW nR cR : Nat) (room : Int) (ws rs : List Int) (hW : WsIn w AW nW cW ws) (hR : WsIn w AR nR cR rs) (hz : acheck nW nR ws rs ≠ 0) :
    Calls Try.prog 46 #[.agg #[.slice AW nW cW, .slice AR nR cR], .int .i64 room] w fun e w' => e = .returned (.tuple #[.agg #[.slice none 0 0, .slice none 0 0], .int .i64 (acheck nW nR ws rs)]) ∧ Below w.heap.size w w' := by
  have hS0 := ((Sep.nil No w).blkAt 55 #[.slice AW nW cW, .slice AR nR cR] rfl).blkAt 55 #[.slice none 0 0, .slice none 0 0] (g := w.heap.size + 1) (by simp)
  obtain ⟨a1, a2, a3, a4⟩ := hS0.rules 0 (g := w.heap.size) (t := 55) rfl
  have HS0 := hide hS0
  have C1 := hide (arenaCheck_any _ AW AR nW cW nR cR ws rs (hW.below hS0.below_) (hR.below hS0.below_))
  obtain ⟨x, hx⟩ : ∃ x, acheck nW nR ws rs = x := ⟨_, rfl⟩
  rw [hx] at C1 hz ⊢
  have y1 : (x != 0) = true := by rw [bne_iff_ne]; exact hz
  clear hS0 hx hz
  go_enter Try.func46, Try.ntmps46
  go_wp2_with fail
  refine C1.out.mono ?_
  rintro e w1 ⟨rfl, hb1⟩
  have hS1 := HS0.out.below hb1
  have HS1 := hide hS1
  clear a1 a2 a3 a4
  obtain ⟨q1, q2, q3, q4⟩ := hS1.rules 1 (g := w.heap.size + 1) (t := 55) rfl
  clear hS1
  go_wp2_with fail
  have hF := (HS1.out.set_ 1 (g := w.heap.size + 1) (t := 55) rfl 0 (.slice none 0 0)).set_ 1 (g := w.heap.size + 1) (t := 55) rfl 1 (.slice none 0 0)
  refine bodyPost_ret (v := .tuple #[.agg #[.slice none 0 0, .slice none 0 0], .int .i64 x]) (by simp [results, Try.results46, go_sem, q1]) rfl ⟨rfl, hF.below_⟩
set_option maxRecDepth 100000 in
set_option maxHeartbeats 4000000 in
theorem mark_room (w : World) (AW AR : Option Addr) (nW cW nR cR : Nat) (room : Int) (ws rs : List Int) (hW : WsIn w AW nW cW ws) (hR : WsIn w AR nR cR rs) (hz : acheck nW nR ws rs = 0) (hr : room < 1 ∨ 64 < room) :
    Calls Try.prog 46 #[.agg #[.slice AW nW cW, .slice AR nR cR], .int .i64 room] w fun e w' => e = .returned (.tuple #[.agg #[.slice none 0 0, .slice none 0 0], .int .i64 3]) ∧ Below w.heap.size w w' := by
  have hS0 := ((Sep.nil No w).blkAt 55 #[.slice AW nW cW, .slice AR nR cR] rfl).blkAt 55 #[.slice none 0 0, .slice none 0 0] (g := w.heap.size + 1) (by simp)
  obtain ⟨a1, a2, a3, a4⟩ := hS0.rules 0 (g := w.heap.size) (t := 55) rfl
  have HS0 := hide hS0
  have C1 := hide (arenaCheck_any _ AW AR nW cW nR cR ws rs (hW.below hS0.below_) (hR.below hS0.below_))
  rw [hz] at C1
  clear hS0 hz
  by_cases h1 : room < 1
  · have k1 : decide (room < 1) = true := by simp [h1]
    clear h1 hr
    go_enter Try.func46, Try.ntmps46
    go_wp2_with fail
    refine C1.out.mono ?_
    rintro e w1 ⟨rfl, hb1⟩
    have hS1 := HS0.out.below hb1
    have HS1 := hide hS1
    clear a1 a2 a3 a4
    obtain ⟨q1, q2, q3, q4⟩ := hS1.rules 1 (g := w.heap.size + 1) (t := 55) rfl
    clear hS1
    go_wp2_with fail
    have hF := (HS1.out.set_ 1 (g := w.heap.size + 1) (t := 55) rfl 0 (.slice none 0 0)).set_ 1 (g := w.heap.size + 1) (t := 55) rfl 1 (.slice none 0 0)
    refine bodyPost_ret (v := .tuple #[.agg #[.slice none 0 0, .slice none 0 0], .int .i64 3]) (by simp [results, Try.results46, go_sem, q1]) rfl ⟨rfl, hF.below_⟩
  · have k1 : decide (room < 1) = false := by simp only [h1, decide_false]
    have k2 : decide (64 < room) = true := by simp; omega
    clear h1 hr
    go_enter Try.func46, Try.ntmps46
    go_wp2_with fail
    refine C1.out.mono ?_
    rintro e w1 ⟨rfl, hb1⟩
    have hS1 := HS0.out.below hb1
    have HS1 := hide hS1
    clear a1 a2 a3 a4
    obtain ⟨q1, q2, q3, q4⟩ := hS1.rules 1 (g := w.heap.size + 1) (t := 55) rfl
    clear hS1
    go_wp2_with fail
    have hF := (HS1.out.set_ 1 (g := w.heap.size + 1) (t := 55) rfl 0 (.slice none 0 0)).set_ 1 (g := w.heap.size + 1) (t := 55) rfl 1 (.slice none 0 0)
    refine bodyPost_ret (v := .tuple #[.agg #[.slice none 0 0, .slice none 0 0], .int .i64 3]) (by simp [results, Try.results46, go_sem, q1]) rfl ⟨rfl, hF.below_⟩

set_option maxRecDepth 100000 in
set_option maxHeartbeats 8000000 in
theorem markTells_bad (w : World) (AW AR : Option Addr) (nW cW nR cR : Nat) (room : Int) (ws rs : List Int) (hW : WsIn w AW nW cW ws) (hR : WsIn w AR nR cR rs) (hz : acheck nW nR ws rs ≠ 0) :
    Calls Try.prog 11 #[.agg #[.slice AW nW cW, .slice AR nR cR], .int .i64 room] w fun e w' => e = .returned (.bool true) ∧ Below w.heap.size w w' := by
  have hB0 : Below w.heap.size w (w.alloc (.cells #[.slice AW nW cW, .slice AR nR cR] 55)) := (Below.refl _ w).alloc (Nat.le_refl _) _
  have BA := hide (Blk.new w 55 #[.slice AW nW cW, .slice AR nR cR])
  have HB0 := hide hB0
  have C1 := hide (mark_bad _ AW AR nW cW nR cR room ws rs (hW.below hB0) (hR.below hB0) hz)
  have C2 := hide (fun w' (hb : Below w.heap.size w w') => sweep_bad w' AW AR nW cW nR cR ws rs (hW.below hb) (hR.below hb) hz)
  have C4 := hide (fun w' (hb : Below w.heap.size w w') => refAcheck_any w' AW AR nW cW nR cR ws rs (hW.below hb) (hR.below hb))
  obtain ⟨x, hx⟩ : ∃ x, acheck nW nR ws rs = x := ⟨_, rfl⟩
  rw [hx] at C1 hz
  simp only [hx] at C2 C4
  have y1 : (x != 0) = true := by rw [bne_iff_ne]; exact hz
  clear hz hx hB0
  go_enter Try.func11, Try.ntmps11
  go_wp2_with fail
  refine C1.out.mono ?_
  rintro e w1 ⟨rfl, hb1⟩
  have bA1 := (BA.out.below_ hb1).alloc (.cells #[.slice none 0 0, .slice none 0 0] 55)
  have hB1 := HB0.out.trans (hb1.mono HB0.out.size)
  have hB1' := hB1.alloc hB1.size (.cells #[.slice none 0 0, .slice none 0 0] 55)
  have bV1 := Blk.new w1 55 #[.slice none 0 0, .slice none 0 0]
  obtain ⟨a1, a2, a3⟩ := bA1.rules
  have HB1 := hide hB1'
  have BA1 := hide bA1
  have BV1 := hide bV1
  clear hb1 hB1 hB1' bA1 bV1 HB0 BA C1
  go_wp2_with fail
  refine (C2.out _ HB1.out).mono ?_
  rintro e w2 ⟨rfl, hb2⟩
  have hB2 := HB1.out.trans (hb2.mono HB1.out.size)
  have bA2 := BA1.out.below_ hb2
  have bV2 := BV1.out.below_ hb2
  clear a1 a2 a3
  obtain ⟨a1, a2, a3⟩ := bA2.rules
  have HB2 := hide hB2
  have BV2 := hide bV2
  clear hb2 hB2 bA2 bV2 HB1 BA1 BV1 C2
  go_wp2_with fail
  refine (C4.out _ HB2.out).mono ?_
  rintro e w3 ⟨rfl, hb3⟩
  have hB3 := HB2.out.trans (hb3.mono HB2.out.size)
  have bV3 := BV2.out.below_ hb3
  clear a1 a2 a3
  obtain ⟨v1, v2, v3⟩ := bV3.rules
  have HB3 := hide hB3
  clear hb3 hB3 bV3 HB2 BV2 C4
  go_wp2_with fail
  refine (arenas_any w3 w3 w3 _ _ [] [] (by simp) (by simp) (arenas_nil_ w3) (arenas_nil_ w3)).mono ?_
  rintro e w4 ⟨rfl, hb4⟩
  have hB4 := HB3.out.trans (hb4.mono HB3.out.size)
  have HB4 := hide hB4
  clear hB4 hb4 v1 v2 v3
  go_wp2_with fail
  go_ret
  exact ⟨rfl, HB4.out⟩

set_option maxRecDepth 100000 in
set_option maxHeartbeats 8000000 in
theorem markTells_room (w : World) (AW AR : Option Addr) (nW cW nR cR : Nat) (room : Int) (ws rs : List Int) (hW : WsIn w AW nW cW ws) (hR : WsIn w AR nR cR rs) (hz : acheck nW nR ws rs = 0) (hr : room < 1 ∨ 64 < room) :
    Calls Try.prog 11 #[.agg #[.slice AW nW cW, .slice AR nR cR], .int .i64 room] w fun e w' => e = .returned (.bool true) ∧ Below w.heap.size w w' := by
  obtain ⟨h1, h2, h3, h4⟩ := acheck_zero hz
  have hB0 : Below w.heap.size w (w.alloc (.cells #[.slice AW nW cW, .slice AR nR cR] 55)) := (Below.refl _ w).alloc (Nat.le_refl _) _
  have BA := hide (Blk.new w 55 #[.slice AW nW cW, .slice AR nR cR])
  have HB0 := hide hB0
  have C1 := hide (mark_room _ AW AR nW cW nR cR room ws rs (hW.below hB0) (hR.below hB0) hz hr)
  have C2 := hide (fun w' (hb : Below w.heap.size w w') => sweep_ok w' AW AR nW cW nR cR ws rs (hW.below hb) (hR.below hb) hz)
  have C3 := hide (fun w' (hb : Below w.heap.size w w') => refSweep_any w' AW AR nW cW nR cR ws (hW.below hb) h1 h3)
  have C4 := hide (fun w' (hb : Below w.heap.size w w') => refAcheck_any w' AW AR nW cW nR cR ws rs (hW.below hb) (hR.below hb))
  simp only [hz] at C4
  obtain ⟨L, hL⟩ : ∃ L, sweepL ws (parse nW ws 0).1 = L := ⟨_, rfl⟩
  have hLl : L.length ≤ 1000 := by
    have h5 := (sweepL_mem (arn_of hW h1 h3) _ (Nat.le_refl _)).2
    rw [List.take_length, hL] at h5
    have h7 := parse_sum nW ws 0 (by omega) (fun x hx => (hW.wf x hx).1)
    have h8 : ∀ m : List (Nat × Nat), m.length ≤ (m.map fun p => 1 + p.2).sum := fun m => by
      induction m with
      | nil => simp
      | cons a m ih => simp only [List.map_cons, List.sum_cons, List.length_cons]; omega
    have h9 := h8 (parse nW ws 0).1
    have h10 := hW.len
    omega
  simp only [hL] at C2 C3
  have k3 : decide (room < 1) = true ∨ (decide (room < 1) = false ∧ decide (64 < room) = true) := by
    rcases hr with h | h
    · exact .inl (by simp [h])
    · by_cases h5 : room < 1
      · exact .inl (by simp [h5])
      · exact .inr ⟨by simp only [h5, decide_false], by simp [h]⟩
  have HLL := hide hLl
  clear hz hB0 h1 h2 h3 h4 hL hLl hr
  go_enter Try.func11, Try.ntmps11
  go_wp2_with fail
  refine C1.out.mono ?_
  rintro e w1 ⟨rfl, hb1⟩
  have bA1 := (BA.out.below_ hb1).alloc (.cells #[.slice none 0 0, .slice none 0 0] 55)
  have hB1 := HB0.out.trans (hb1.mono HB0.out.size)
  have hB1' := hB1.alloc hB1.size (.cells #[.slice none 0 0, .slice none 0 0] 55)
  have bV1 := Blk.new w1 55 #[.slice none 0 0, .slice none 0 0]
  obtain ⟨a1, a2, a3⟩ := bA1.rules
  have HB1 := hide hB1'
  have BA1 := hide bA1
  have BV1 := hide bV1
  clear hb1 hB1 hB1' bA1 bV1 HB0 BA C1
  go_wp2_with fail
  refine (C2.out _ HB1.out).mono ?_
  rintro e w2 ⟨A2, n2, c2, rfl, hP2⟩
  have hb2 := hP2.below_
  have hn2 : n2 = L.length := by have := (hP2.rd_ 0 rfl).1; rw [blks_length] at this; omega
  subst hn2
  have hB2 := HB1.out.trans (hb2.mono HB1.out.size)
  have bA2 := BA1.out.below_ hb2
  have bV2 := BV1.out.below_ hb2
  clear a1 a2 a3
  obtain ⟨a1, a2, a3⟩ := bA2.rules
  have HB2 := hide hB2
  have BA2 := hide bA2
  have BV2 := hide bV2
  have HR2 := hide (hP2.rd_ 0 rfl)
  clear hb2 hP2 hB2 bA2 bV2 HB1 BA1 BV1 C2
  go_wp2_with fail
  refine (C4.out _ HB2.out).mono ?_
  rintro e w3 ⟨rfl, hb3⟩
  have hB3 := HB2.out.trans (hb3.mono HB2.out.size)
  have bV3 := BV2.out.below_ hb3
  have bA3 := BA2.out.below_ hb3
  clear a1 a2 a3
  obtain ⟨a1, a2, a3⟩ := bA3.rules
  have HB3 := hide hB3
  have BV3 := hide bV3
  have HR3 := hide (HR2.out.below hb3)
  clear hb3 hB3 bV3 bA3 HB2 BV2 BA2 C4 HR2
  go_wp2_with fail
  refine (C3.out _ HB3.out).mono ?_
  rintro e w4 ⟨A4, n4, c4, rfl, hP4⟩
  have hb4 := hP4.below_
  have hn4 : n4 = L.length := by have := (hP4.rd_ 0 rfl).1; rw [blks_length] at this; omega
  subst hn4
  have C5 := hide (blocks_same w4 _ _ A2 A4 L.length c2 c4 L (by have := HLL.out; omega) (HR3.out.below hb4) (hP4.rd_ 0 rfl))
  have HB4 := hide (HB3.out.trans (hb4.mono HB3.out.size))
  have BV4 := hide (BV3.out.below_ hb4)
  clear a1 a2 a3 hb4 hP4 HB3 BV3 C3 HR3
  go_wp2_with fail
  refine C5.out.mono ?_
  rintro e w5 ⟨rfl, hb5⟩
  have hB5 := HB4.out.trans (hb5.mono HB4.out.size)
  have bV5 := BV4.out.below_ hb5
  obtain ⟨v1, v2, v3⟩ := bV5.rules
  have HB5 := hide hB5
  clear hb5 hB5 bV5 HB4 BV4 C5
  rcases k3 with k3 | ⟨k3, k4⟩
  all_goals
    go_wp2_with fail
    refine (arenas_any w5 w5 w5 _ _ [] [] (by simp) (by simp) (arenas_nil_ w5) (arenas_nil_ w5)).mono ?_
    rintro e w6 ⟨rfl, hb6⟩
    have HB6 := hide (HB5.out.trans (hb6.mono HB5.out.size))
    clear hb6 v1 v2 v3
    go_wp2_with fail
    go_ret
    exact ⟨rfl, HB6.out⟩
set_option maxRecDepth 100000 in
set_option maxHeartbeats 8000000 in
theorem markTells_ok (w : World) (AW AR : Option Addr) (nW cW nR cR : Nat) (R : Nat) (ws rs : List Int) (hW : WsIn w AW nW cW ws) (hR : WsIn w AR nR cR rs) (hz : acheck nW nR ws rs = 0) (hr1 : 1 ≤ R) (hr2 : R ≤ 64) :
    Calls Try.prog 11 #[.agg #[.slice AW nW cW, .slice AR nR cR], .int .i64 R] w fun e w' => e = .returned (.bool true) ∧ Below w.heap.size w w' := by
  obtain ⟨h1, h2, h3, h4⟩ := acheck_zero hz
  have hB0 : Below w.heap.size w (w.alloc (.cells #[.slice AW nW cW, .slice AR nR cR] 55)) := (Below.refl _ w).alloc (Nat.le_refl _) _
  have BA := hide (Blk.new w 55 #[.slice AW nW cW, .slice AR nR cR])
  have HB0 := hide hB0
  have C1 := hide (mark_ok _ AW AR nW cW nR cR R ws rs (hW.below hB0) (hR.below hB0) hz hr1 hr2)
  have C6 := hide (fun w' (hb : Below w.heap.size w w') => refMark_any w' AW AR nW cW nR cR ws rs (hW.below hb) (hR.below hb) hz)
  have C2 := hide (fun w' (hb : Below w.heap.size w w') => sweep_ok w' AW AR nW cW nR cR ws rs (hW.below hb) (hR.below hb) hz)
  have C3 := hide (fun w' (hb : Below w.heap.size w w') => refSweep_any w' AW AR nW cW nR cR ws (hW.below hb) h1 h3)
  have C4 := hide (fun w' (hb : Below w.heap.size w w') => refAcheck_any w' AW AR nW cW nR cR ws rs (hW.below hb) (hR.below hb))
  simp only [hz] at C4
  obtain ⟨L, hL⟩ : ∃ L, sweepL ws (parse nW ws 0).1 = L := ⟨_, rfl⟩
  have hLl : L.length ≤ 1000 := by
    have h5 := (sweepL_mem (arn_of hW h1 h3) _ (Nat.le_refl _)).2
    rw [List.take_length, hL] at h5
    have h7 := parse_sum nW ws 0 (by omega) (fun x hx => (hW.wf x hx).1)
    have h8 : ∀ m : List (Nat × Nat), m.length ≤ (m.map fun p => 1 + p.2).sum := fun m => by
      induction m with
      | nil => simp
      | cons a m ih => simp only [List.map_cons, List.sum_cons, List.length_cons]; omega
    have h9 := h8 (parse nW ws 0).1
    have h10 := hW.len
    omega
  simp only [hL] at C2 C3
  have k3 : decide ((R : Int) < 1) = false := by simp; omega
  have k4 : decide ((64 : Int) < (R : Int)) = false := by simp; omega
  have hxl : (mkW ws (parse nW ws 0).1 (refS nW ws rs)).length ≤ 1000 := by rw [(arn_of hW h1 h3).length]; omega
  have hyl : rs.length ≤ 1000 := by rw [hR.len]; omega
  obtain ⟨xs, hxs⟩ : ∃ xs, mkW ws (parse nW ws 0).1 (refS nW ws rs) = xs := ⟨_, rfl⟩
  rw [hxs] at C1 hxl
  simp only [hxs] at C6
  have HXL := hide hxl
  have HYL := hide hyl
  have HLL := hide hLl
  clear hz hB0 h1 h2 h3 h4 hL hLl hr1 hr2 hxl hyl hxs
  go_enter Try.func11, Try.ntmps11
  go_wp2_with fail
  refine C1.out.mono ?_
  rintro e w1 ⟨X1, e1, X2, e2, rfl, hP1⟩
  have hb1 := hP1.below_
  have hAr0 := arn_rd hP1
  have bA1 := (BA.out.below_ hb1).alloc (.cells #[.slice X1 nW e1, .slice X2 nR e2] 55)
  have hB1 := HB0.out.trans (hb1.mono HB0.out.size)
  have hB1' := hB1.alloc hB1.size (.cells #[.slice X1 nW e1, .slice X2 nR e2] 55)
  have bV1 := Blk.new w1 55 #[.slice X1 nW e1, .slice X2 nR e2]
  have HAr1 := hide (hAr0.below ((Below.refl _ w1).alloc (Nat.le_refl _) (.cells #[.slice X1 nW e1, .slice X2 nR e2] 55)))
  obtain ⟨a1, a2, a3⟩ := bA1.rules
  have HB1 := hide hB1'
  have BA1 := hide bA1
  have BV1 := hide bV1
  clear hb1 hP1 hAr0 hB1 hB1' bA1 bV1 HB0 BA C1
  go_wp2_with fail
  refine (C2.out _ HB1.out).mono ?_
  rintro e w2 ⟨A2, n2, c2, rfl, hP2⟩
  have hb2 := hP2.below_
  have hn2 : n2 = L.length := by have := (hP2.rd_ 0 rfl).1; rw [blks_length] at this; omega
  subst hn2
  have hB2 := HB1.out.trans (hb2.mono HB1.out.size)
  have bA2 := BA1.out.below_ hb2
  have bV2 := BV1.out.below_ hb2
  clear a1 a2 a3
  obtain ⟨a1, a2, a3⟩ := bA2.rules
  have HB2 := hide hB2
  have BA2 := hide bA2
  have BV2 := hide bV2
  have HR2 := hide (hP2.rd_ 0 rfl)
  have HAr2 := hide (HAr1.out.below hb2)
  clear hb2 hP2 hB2 bA2 bV2 HB1 BA1 BV1 C2 HAr1
  go_wp2_with fail
  refine (C4.out _ HB2.out).mono ?_
  rintro e w3 ⟨rfl, hb3⟩
  have hB3 := HB2.out.trans (hb3.mono HB2.out.size)
  have bV3 := BV2.out.below_ hb3
  have bA3 := BA2.out.below_ hb3
  clear a1 a2 a3
  obtain ⟨a1, a2, a3⟩ := bA3.rules
  have HB3 := hide hB3
  have BV3 := hide bV3
  have HR3 := hide (HR2.out.below hb3)
  have HAr3 := hide (HAr2.out.below hb3)
  have BA3 := hide bA3
  clear hb3 hB3 bV3 bA3 HB2 BV2 BA2 C4 HR2 HAr2
  go_wp2_with fail
  refine (C3.out _ HB3.out).mono ?_
  rintro e w4 ⟨A4, n4, c4, rfl, hP4⟩
  have hb4 := hP4.below_
  have hn4 : n4 = L.length := by have := (hP4.rd_ 0 rfl).1; rw [blks_length] at this; omega
  subst hn4
  have C5 := hide (blocks_same w4 _ _ A2 A4 L.length c2 c4 L (by have := HLL.out; omega) (HR3.out.below hb4) (hP4.rd_ 0 rfl))
  have HB4 := hide (HB3.out.trans (hb4.mono HB3.out.size))
  have BV4 := hide (BV3.out.below_ hb4)
  have BA4 := hide (BA3.out.below_ hb4)
  have HAr4 := hide (HAr3.out.below hb4)
  clear a1 a2 a3 hb4 hP4 HB3 BV3 C3 HR3 BA3 HAr3
  go_wp2_with fail
  refine C5.out.mono ?_
  rintro e w5 ⟨rfl, hb5⟩
  have hB5 := HB4.out.trans (hb5.mono HB4.out.size)
  have bV5 := BV4.out.below_ hb5
  have bA5 := BA4.out.below_ hb5
  have u5 : w5.cell? ⟨w.heap.size, 0, none⟩ = some (.slice AW nW cW) := by rw [bA5.cell]; rfl
  have u6 : w5.cell? ⟨w.heap.size, 1, none⟩ = some (.slice AR nR cR) := by rw [bA5.cell]; rfl
  have v5 : w5.cell? ⟨w1.heap.size, 0, none⟩ = some (.slice X1 nW e1) := by rw [bV5.cell]; rfl
  have v6 : w5.cell? ⟨w1.heap.size, 1, none⟩ = some (.slice X2 nR e2) := by rw [bV5.cell]; rfl
  have HB5 := hide hB5
  have BV5 := hide bV5
  have HAr5 := hide (HAr4.out.below hb5)
  clear hb5 hB5 bV5 bA5 HB4 BV4 BA4 HAr4 C5
  go_wp2_with fail
  go_region_law (first
    | (try go_simp
       go_at_call 44
       refine (C6.out w5.drew HB5.out.drew).mono ?_
       rintro e w6 ⟨va, rfl, hb6, hAr6⟩
       have hB6 := HB5.out.drew.trans (hb6.mono HB5.out.size)
       have bV6 := BV5.out.drew.below_ hb6
       (have d5 : w6.cell? ⟨w1.heap.size, 0, none⟩ = some (.slice X1 nW e1) := by rw [bV6.cell]; rfl)
       (have d6 : w6.cell? ⟨w1.heap.size, 1, none⟩ = some (.slice X2 nR e2) := by rw [bV6.cell]; rfl)
       have hAr6' := (HAr5.out.below (Below.refl _ w5).drew).below hb6)
    | (try go_simp
       go_at_call 28
       refine (arenas_any w6 _ w5.drew _ _ xs rs HXL.out HYL.out hAr6' hAr6).mono ?_
       rintro e w7 ⟨rfl, hb7⟩
       have hB7 := hB6.trans (hb7.mono hB6.size)))
  all_goals
    go_wp2_with fail
    go_ret
    exact ⟨rfl, hB7⟩

theorem markTells_walk (w : World) (AW AR : Option Addr) (nW cW nR cR : Nat) (room : Int) (ws rs : List Int) (hW : WsIn w AW nW cW ws) (hR : WsIn w AR nR cR rs) :
    Calls Try.prog 11 #[.agg #[.slice AW nW cW, .slice AR nR cR], .int .i64 room] w fun e w' => e = .returned (.bool true) ∧ Below w.heap.size w w' := by
  by_cases hz : acheck nW nR ws rs = 0
  · by_cases hr : room < 1 ∨ 64 < room
    · exact markTells_room w AW AR nW cW nR cR room ws rs hW hR hz hr
    · have h := markTells_ok w AW AR nW cW nR cR room.toNat ws rs hW hR hz (by omega) (by omega)
      rw [show ((room.toNat : Nat) : Int) = room from by omega] at h
      exact h
  · exact markTells_bad w AW AR nW cW nR cR room ws rs hW hR hz
end Go.Proofs.Ytpbafmdebflbpaa
