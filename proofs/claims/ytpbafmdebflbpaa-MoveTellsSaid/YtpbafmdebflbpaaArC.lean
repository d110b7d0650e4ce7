/- arena: Lay. -/
import Derived.Test.YtpbafmdebflbpaaArB
namespace Go.Proofs.Ytpbafmdebflbpaa
open Go.RowKit

theorem perm_a7 {α : Type} (n a b c d e f : α) : [n, a, b, c, d, e, f].Perm [n, b, c, d, e, f, a] := by
  classical
  rw [List.perm_iff_count]
  intro x
  simp only [List.count_cons, List.count_nil]
  omega
theorem pack_step {w w7 : World} {A7 Ao A : Option Addr} {n7 c7 no co k c b : Nat} {xs : List Int} {l : List Val} {at_ : List Int} {X Y : Item} {rest : List Item} (hn : no ≤ 1000) (hk : k ≤ 1000) (h7 : n7 ≤ 1000)
    (hS : Sep No w w7 (rowI 24 1 A7 n7 c7 (u64s xs) :: rowI 2 1 A k c (ints at_) :: X :: Y :: blkI b 108 #[.slice A k c] :: rest)) (hl : Rd w (fun _ => True) 2 Ao no (vals l)) (hv : ∀ v ∈ l, v.1 = true → 0 ≤ v.2 ∧ v.2 < k) :
    Calls Try.prog 59 #[.slice A7 n7 c7, .slice Ao no co, .pointer (some ⟨b, 0, none⟩)] w7 fun e w8 => ∃ A8 c8, e = .returned (.slice A8 (n7 + no) c8) ∧
      Sep No w w8 (rowI 24 1 A8 (n7 + no) c8 (u64s (xs ++ l.map (packV at_))) :: rowI 2 1 A k c (ints at_) :: X :: Y :: blkI b 108 #[.slice A k c] :: rest) := by
  refine (pack_any w7 (fun g => ¬ (rowI 24 1 A7 n7 c7 (u64s xs)).fp g) A7 Ao A n7 c7 no co k c b xs l at_ hn hk h7 (hS.get 0 rfl) (fun g hg hn => hn hg) (hS.get 4 rfl)
    (fun hg => hS.other (a := 0) (b := 4) rfl rfl (by omega) b hg rfl)
    (((hl.more (D' := fun g => g < w.heap.size) (fun k hk _ => hk)).below hS.below_).more (fun g _ hg hf => by
      rcases hS.lo 0 rfl g hf with h | h
      · exact h
      · omega))
    (Rd.of_own (show w7.ownsRow 0 2 1 (.slice A k c) k (ints at_) from hS.get 1 rfl) (fun g hg hf => hS.other (a := 0) (b := 1) rfl rfl (by omega) g hf (by subst hg; rfl))) hv).mono ?_
  rintro e w8 ⟨A8, c8, rfl, hP⟩
  exact ⟨A8, c8, rfl, hS.call 0 rfl hP⟩

set_option maxHeartbeats 4000000 in
theorem lay_bad (w : World) (AO AR : Option Addr) (nO cO nR cR : Nat) (obs : List Ob) (roots : List Val) (x : Int) (hx : gcheck nO nR obs roots = x) (hx0 : x ≠ 0) (hO : ObsRd w (fun _ => True) AO nO obs) (hR : Rd w (fun _ => True) 2 AR nR (vals roots)) :
    Calls Try.prog 26 #[.agg #[.slice AO nO cO, .slice AR nR cR]] w fun e w' => e = .returned (.tuple #[.agg #[.slice none 0 0, .slice none 0 0], .int .i64 x]) ∧ Below w.heap.size w w' := by
  have hB0 : Below w.heap.size w ((w.alloc (.cells #[.slice AO nO cO, .slice AR nR cR] 52)).alloc (.cells #[.slice none 0 0, .slice none 0 0] 55)) := ((Below.refl _ w).alloc (Nat.le_refl _) _).alloc (by simp) _
  have C := hide (graphCheck_any _ AO AR nO cO nR cR obs roots (hO.below hB0) (hR.below hB0))
  rw [hx] at C
  have bR := (Blk.new (w.alloc (.cells #[.slice AO nO cO, .slice AR nR cR] 52)) 55 #[.slice none 0 0, .slice none 0 0])
  rw [World.size_alloc] at bR
  have BR := hide bR
  have HB0 := hide hB0
  have y1 : (x != 0) = true := by rw [bne_iff_ne]; exact hx0
  clear hx hx0 hO hR hB0 bR
  go_enter Try.func26, Try.ntmps26
  go_wp2_with fail
  refine C.out.mono ?_
  rintro e w1 ⟨rfl, hb1⟩
  have bR1 := BR.out.below_ hb1
  obtain ⟨r1, r2, r3⟩ := bR1.rules
  have hz := hb1.size
  simp at hz
  have hB1 := HB0.out.trans (hb1.mono (by simp; omega))
  go_wp2_with fail
  refine bodyPost_ret (v := .tuple #[.agg #[.slice none 0 0, .slice none 0 0], .int .i64 x]) (by simp [results, Try.results26, go_sem, r1]) rfl ⟨rfl, ?_⟩
  exact (hB1.setCell (p := ⟨w.heap.size + 1, 0, none⟩) (by simp) _).setCell (p := ⟨w.heap.size + 1, 1, none⟩) (by simp) _

set_option maxRecDepth 100000 in
set_option maxHeartbeats 16000000 in
theorem lay_ok (w : World) (AO AR : Option Addr) (nO cO nR cR : Nat) (obs : List Ob) (roots : List Val) (hx : gcheck nO nR obs roots = 0) (hO : ObsRd w (fun _ => True) AO nO obs) (hR : Rd w (fun _ => True) 2 AR nR (vals roots)) (h1 : nO ≤ 24) (h2 : nR ≤ 8) (hfl : ∀ o ∈ obs, o.n ≤ 4)
    (hvO : ∀ o ∈ obs, ∀ v ∈ o.fields, v.1 = true → 0 ≤ v.2 ∧ v.2 < nO) (hvR : ∀ v ∈ roots, v.1 = true → 0 ≤ v.2 ∧ v.2 < nO) :
    Calls Try.prog 26 #[.agg #[.slice AO nO cO, .slice AR nR cR]] w fun e w' => ∃ v, e = .returned (.tuple #[v, .int .i64 0]) ∧ Below w.heap.size w w' ∧ ArenaRd w w' v (wordsL (atL obs nO) obs) (roots.map (packV (atL obs nO))) := by
  have HOL := hide hO.len
  have HSB := hide (fun k => sAt_bound obs k hfl)
  have HFL := hide hfl
  have HVO := hide hvO
  have HVR := hide hvR
  have hS0 := (((Sep.nil No w).blkAt 52 #[.slice AO nO cO, .slice AR nR cR] rfl).blkAt 55 #[.slice none 0 0, .slice none 0 0] (g := w.heap.size + 1) (by simp))
  have C := hide (graphCheck_any _ AO AR nO cO nR cR obs roots (hO.below hS0.below_) (hR.below hS0.below_))
  rw [hx] at C
  have HS0 := hide hS0
  clear hfl hvO hvR hx hS0
  go_enter Try.func26, Try.ntmps26
  go_wp2_with fail
  refine C.out.mono ?_
  rintro e w1 ⟨rfl, hb1⟩
  have hS1 := HS0.out.below hb1
  obtain ⟨g1, g2, g3, g4⟩ := hS1.rules 0 (g := w.heap.size) (t := 52) rfl
  have HS1 := hide ((hS1.blkAt 108 #[.slice none 0 0] rfl).nilRow0 2 1)
  clear C HS0 hb1 hS1
  go_wp2_with fail
  clear g1 g2 g3 g4
  go_loopw [6, 24] (fun s6 i wr => ∃ (k : Nat) (A : Option Addr) (c : Nat), k ≤ nO ∧ i = .int .i64 k ∧ s6 = .int .i64 (sAt obs k) ∧ Sep No w wr [rowI 2 1 A k c (ints (atL obs k)), blkI w.heap.size 52 #[.slice AO nO cO, .slice AR nR cR], blkI (w.heap.size + 1) 55 #[.slice none 0 0, .slice none 0 0], blkI w1.heap.size 108 #[.slice A k c]]) (fun _ i _ => nO - (intOf i).toNat)
  case atStart => exact ⟨0, none, 0, by omega, rfl, by simp [sAt], by simpa [atL] using HS1.out⟩
  case round =>
    clear HS1
    obtain ⟨k, A, c, hk, rfl, rfl, hS⟩ := hrel
    by_cases hlt : k < nO
    · have hkl : k < obs.length := by rw [HOL.out]; exact hlt
      obtain ⟨ad, hA, _, had, hc⟩ := (hO.below hS.below_).row.at_ hlt
      have e0 := hc obs[k].val (by simp [List.getElem?_eq_getElem hkl])
      have hon := HFL.out _ (List.getElem_mem hkl)
      have HT := hide (List.take_succ_eq_append_getElem hkl)
      obtain ⟨o, ho⟩ : ∃ o, obs[k] = o := ⟨_, rfl⟩
      rw [ho] at e0 HT hon
      have HA := hide (sAt_succ obs k o HT.out)
      unfold Ob.val at e0
      subst hA
      obtain ⟨b1, b2⟩ := HSB.out k
      obtain ⟨y, hy⟩ : ∃ y, sAt obs k = y := ⟨_, rfl⟩
      have HY := hide hy
      rw [hy] at b1 b2 ⊢
      have hS5 := hS.blkAt 110 #[.slice o.A o.n o.c] rfl
      obtain ⟨a1, a2, a3, a4⟩ := hS.rules 3 (g := w1.heap.size) (t := 108) rfl
      have hneA : w1.heap.size ≠ wr.heap.size := by omega
      clear hc ho hy
      go_wp2_with (first
        | (at_builtin
           refine wpList_app1 (cs := #[.int .i64 y]) rfl (.tmp 28) (.tmp 30) 108 rfl sI64 hS5 0 (n := k) rfl rfl rfl (by simp) rfl rfl (by omega) ?_
           intro A4 c4 w4 hS4 hC4
           obtain ⟨z1, z2, z3, z4⟩ := hS4.rules 3 (g := w1.heap.size) (t := 108) rfl
           (have z5 : ∀ v, (w4.setCell ⟨w1.heap.size, 0, none⟩ v).cell? ⟨wr.heap.size, 0, none⟩ = some (.slice o.A o.n o.c) := fun v => by
              rw [World.cell?_setCell_other _ _ _ _ (fun e => hneA (congrArg Addr.block e))]
              obtain ⟨q1, _⟩ := hS4.rules 4 (g := wr.heap.size) (t := 110) rfl
              rw [q1]; rfl)))
      have hS6 := (hS4.set_ 3 (g := w1.heap.size) (t := 108) rfl 0 (.slice A4 (k + 1) c4)).sub (List.take_sublist 4 _)
      go_roundw
      case rel =>
        refine ⟨k + 1, A4, c4, by omega, by go_num, ?_, ?_⟩
        · rw [HA.out, HY.out] <;> go_num
        · rw [atL_succ, HY.out, ints_snoc]; exact hS6
      case measure => simp [intOf]; omega
    · obtain rfl : k = nO := by omega
      obtain ⟨g1, g2, g3, g4⟩ := hS.rules 1 (g := w.heap.size) (t := 52) rfl
      obtain ⟨wo, rfl⟩ : ∃ wo : World, wo = wr := ⟨_, rfl⟩
      have HS4 := hide ((hS.blkAt 55 #[.slice none 0 0, .slice none 0 0] rfl).nilRow0 24 1)
      clear hS
      go_wp2_with fail
      clear g1 g2 g3 g4
      go_loopw [43] (fun i w5 => ∃ (j m : Nat) (Aw : Option Addr) (cw : Nat), j ≤ k ∧ i = .int .i64 j ∧ Sep No w w5 [rowI 24 1 Aw m cw (u64s (wordsL (atL obs k) (obs.take j))), rowI 2 1 A k c (ints (atL obs k)), blkI w.heap.size 52 #[.slice AO k cO, .slice AR nR cR], blkI (w.heap.size + 1) 55 #[.slice none 0 0, .slice none 0 0], blkI w1.heap.size 108 #[.slice A k c], blkI wo.heap.size 55 #[.slice Aw m cw, .slice none 0 0]]) (fun i _ => k - (intOf i).toNat)
      case atStart => exact ⟨0, 0, none, 0, by omega, rfl, HS4.out⟩
      case round =>
        clear HS4
        obtain ⟨j, m, Aw, cw, hj, rfl, hS⟩ := hrel
        have hm := u64s_row hS 0 rfl
        have hml := wordsL_len (atL obs k) (obs.take j) (fun o ho => by
          have h5 := List.mem_of_mem_take ho
          rw [hO.flen h5]
          exact HFL.out o h5)
        have hm2 : m ≤ 5 * j := by
          rw [List.length_take] at hml
          omega
        clear hm hml
        by_cases hlt2 : j < k
        · have hjl : j < obs.length := by rw [HOL.out]; exact hlt2
          obtain ⟨ad, hA, _, had, hc⟩ := (hO.below hS.below_).row.at_ hlt2
          have e0 := hc obs[j].val (by simp [List.getElem?_eq_getElem hjl])
          have hon := HFL.out _ (List.getElem_mem hjl)
          have hEach := hO.each _ (List.getElem_mem hjl)
          have hVo := HVO.out _ (List.getElem_mem hjl)
          have hFl := hO.flen (List.getElem_mem hjl)
          have HT := hide (List.take_succ_eq_append_getElem hjl)
          obtain ⟨o, ho⟩ : ∃ o, obs[j] = o := ⟨_, rfl⟩
          rw [ho] at e0 HT hon hEach hVo hFl
          unfold Ob.val at e0
          subst hA
          have HVo := hide hVo
          have hS5 := hS.blkAt 110 #[.slice o.A o.n o.c] rfl
          clear hc ho hVo
          go_wp2_with fail
          refine (head14_ok _ (o.n : Int) 0 false (by omega) (by omega) (by omega) (by omega)).mono ?_
          rintro e w6 ⟨rfl, hB6⟩
          have hS6 := hS5.below hB6
          clear hS5 hB6 e0 had hS
          obtain ⟨a1, a2, a3, a4⟩ := hS6.rules 5 (g := wo.heap.size) (t := 55) rfl
          obtain ⟨q1, q2, q3, q4⟩ := hS6.rules 6 (g := wr.heap.size) (t := 110) rfl
          have hSb : Sep No w w6 (rowI 24 1 Aw m cw (u64s (wordsL (atL obs k) (obs.take j))) :: rowI 2 1 A k c (ints (atL obs k)) :: blkI w.heap.size 52 #[.slice (some ad) k cO, .slice AR nR cR] :: blkI (w.heap.size + 1) 55 #[.slice none 0 0, .slice none 0 0] :: blkI w1.heap.size 108 #[.slice A k c] :: blkI wo.heap.size 55 #[.slice Aw m cw, .slice none 0 0] :: [blkI wr.heap.size 110 #[.slice o.A o.n o.c]]) := hS6
          have a5 : w6.cell? ⟨wo.heap.size, 0, none⟩ = some (.slice Aw m cw) := by rw [a1]; rfl
          have q5 : w6.cell? ⟨wr.heap.size, 0, none⟩ = some (.slice o.A o.n o.c) := by rw [q1]; rfl
          clear a1 q1 a4 q4 hS6 HFL HSB HVO HVR
          go_wp2_with fail
          go_region_law (first
            | (refine step_app1d (cs := #[.int .u64 (headW o.n false 0)]) rfl (.tmp 57) (.tmp 59) 53 rfl (F := No) (W := w) sWord (items := rowI 24 1 Aw m cw (u64s (wordsL (atL obs k) (obs.take j))) :: rowI 2 1 A k c (ints (atL obs k)) :: blkI w.heap.size 52 #[.slice (some ad) k cO, .slice AR nR cR] :: blkI (w.heap.size + 1) 55 #[.slice none 0 0, .slice none 0 0] :: blkI w1.heap.size 108 #[.slice A k c] :: blkI wo.heap.size 55 #[.slice Aw m cw, .slice none 0 0] :: [blkI wr.heap.size 110 #[.slice o.A o.n o.c]]) hSb 0 (n := m) rfl rfl rfl (by simp) rfl rfl (by omega) ?_
               intro A7 c7 w7 hS7 hC7
               (have hS7' : Sep No w w7 (rowI 24 1 A7 (m + 1) c7 (u64s (wordsL (atL obs k) (obs.take j) ++ [headW o.n false 0])) :: rowI 2 1 A k c (ints (atL obs k)) :: blkI w.heap.size 52 #[.slice (some ad) k cO, .slice AR nR cR] :: blkI (w.heap.size + 1) 55 #[.slice none 0 0, .slice none 0 0] :: blkI w1.heap.size 108 #[.slice A k c] :: blkI wo.heap.size 55 #[.slice Aw m cw, .slice none 0 0] :: [blkI wr.heap.size 110 #[.slice o.A o.n o.c]]) := by rw [u64s_snoc]; exact hS7)
               obtain ⟨i1, i2, i3, i4⟩ := hS7'.rules 5 (g := wo.heap.size) (t := 55) rfl
               obtain ⟨j1, j2, j3, j4⟩ := hS7'.rules 6 (g := wr.heap.size) (t := 110) rfl
               (have j5 : w7.cell? ⟨wr.heap.size, 0, none⟩ = some (.slice o.A o.n o.c) := by rw [j1]; rfl)
               clear hS7 hC7 i1 j1)
            | (go_simp
               go_at_call 59
               refine (pack_step (co := o.c) (by omega) (by omega) (by omega) hS7' hEach HVo.out).mono ?_
               rintro e w8 ⟨A8, c8, rfl, hS8⟩
               obtain ⟨z1, z2, z3, z4⟩ := hS8.rules 5 (g := wo.heap.size) (t := 55) rfl))
          all_goals
            go_wp2_with fail
            go_roundw
            case rel =>
              refine ⟨j + 1, m + 1 + o.n, A8, c8, by omega, by go_num, ?_⟩
              rw [HT.out, wordsL_snoc, List.append_cons]
              have hS' := (hS8.set_ 5 (g := wo.heap.size) (t := 55) rfl 0 (.slice A8 (m + 1 + o.n) c8)).sub (List.take_sublist 6 _)
              exact hS'
            case measure => simp [intOf]; omega
        · obtain rfl : j = k := by omega
          rw [show obs.take j = obs from List.take_of_length_le (by rw [HOL.out]; omega)] at hS
          obtain ⟨g1, g2, g3, g4⟩ := hS.rules 2 (g := w.heap.size) (t := 52) rfl
          have hS5 := (hS.nilRow0 24 1)
          have hS6 := hS5.perm (perm_a7 _ _ _ _ _ _ _)
          go_wp2_with fail
          refine (pack_step (xs := []) (co := cR) (by omega) (by omega) (by omega) hS6 hR HVR.out).mono ?_
          rintro e w8 ⟨A8, c8, rfl, hS8⟩
          rw [Nat.zero_add, List.nil_append] at hS8
          rw [Nat.zero_add]
          obtain ⟨a1, a2, a3, a4⟩ := hS8.rules 5 (g := wo.heap.size) (t := 55) rfl
          have hS9 := hS8.set_ 5 (g := wo.heap.size) (t := 55) rfl 1 (.slice A8 nR c8)
          obtain ⟨_, y2, y3, y4⟩ := hS8.rules 3 (g := w.heap.size + 1) (t := 55) rfl
          obtain ⟨y1, _, _, _⟩ := hS9.rules 3 (g := w.heap.size + 1) (t := 55) rfl
          clear g1 g2 g3 g4 hS hS5 hS6
          go_wp2_with fail
          have hF := (hS9.set_ 3 (g := w.heap.size + 1) (t := 55) rfl 0 (.slice Aw m cw)).set_ 3 (g := w.heap.size + 1) (t := 55) rfl 1 (.slice A8 nR c8)
          refine bodyPost_ret (v := .tuple #[.agg #[.slice Aw m cw, .slice A8 nR c8], .int .i64 0]) (by simp [results, Try.results26, go_sem, y1]) rfl ⟨_, rfl, hF.below_, ?_⟩
          exact ⟨_, _, _, _, _, _, rfl, hF.rd 6 rfl, hF.rd 0 rfl⟩
end Go.Proofs.Ytpbafmdebflbpaa
