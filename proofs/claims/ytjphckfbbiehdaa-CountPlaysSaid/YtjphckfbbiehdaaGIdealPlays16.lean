/- The graph of a memory's objects, some of them gone. A machine's first registers, on. slices.Clone of a row of values. -/
import Derived.Test.YtjphckfbbiehdaaGIdealPlays10
import Derived.Test.YtjphckfbbiehdaaGIdealPlays14
import Derived.Test.YtjphckfbbiehdaaGIdealPlays15
import Derived.Laws.Rows
import Derived.Laws.Tables
import Derived.Test.YtjphckfbbiehdaaGIdealPlays5
set_option linter.unusedSimpArgs false
set_option linter.unusedVariables false
namespace Go.Proofs.Ytjphckfbbiehdaa
open Go.RowKit

/-- A row of pointers to objects that reads; what is gone is nil. -/
structure PtrsRd (w : World) (A : Option Addr) (n : Nat) (l : List (Option Nat × Ob)) : Prop where
  row : Rd w (fun _ => True) 1 A n (l.map fun p => .pointer (p.1.map fun B => ⟨B, 0, none⟩))
  each : ∀ p ∈ l, ∀ B, p.1 = some B → B < w.heap.size ∧ w.cell? ⟨B, 0, none⟩ = some (.slice p.2.A p.2.n p.2.c) ∧ Rd w (fun _ => True) 2 p.2.A p.2.n (vals p.2.fields)
  gone : ∀ p ∈ l, p.1 = none → p.2 = ⟨none, 0, 0, []⟩
theorem PtrsRd.len {w : World} {A : Option Addr} {n : Nat} {l : List (Option Nat × Ob)} (h : PtrsRd w A n l) : l.length = n := by
  have := h.row.1; simpa using this
theorem PtrsRd.below {w w' : World} {A : Option Addr} {n : Nat} {l : List (Option Nat × Ob)} (h : PtrsRd w A n l) (hb : Below w.heap.size w w') : PtrsRd w' A n l :=
  ⟨h.row.below hb, fun p hp B hB => by
    obtain ⟨h1, h2, h3⟩ := h.each p hp B hB
    exact ⟨Nat.lt_of_lt_of_le h1 hb.size, (World.cell?_of_block (a := ⟨B, 0, none⟩) (hb.block B h1)).trans h2, h3.below hb⟩, h.gone⟩
theorem PtrsRd.obs {w : World} {A : Option Addr} {n : Nat} {l : List (Option Nat × Ob)} (h : PtrsRd w A n l) : ∀ o ∈ l.map (·.2), Rd w (fun _ => True) 2 o.A o.n (vals o.fields) := by
  intro o ho
  obtain ⟨p, hp, rfl⟩ := List.mem_map.1 ho
  cases hq : p.1 with
  | none => rw [h.gone p hp hq]; exact Rd.nil
  | some B => exact (h.each p hp B hq).2.2
theorem rd_of_blk {w : World} {g t : Nat} {cs : List Value} {size n : Nat} (h : Blk w g t cs.toArray) (hs : cs.length = n * size) : Rd w (fun _ => True) size (some ⟨g, 0, none⟩) n cs :=
  ⟨hs, fun _ => ⟨_, rfl, trivial, h.lt, fun j u hu => by rw [hraddr0, h.cell]; simpa using hu⟩⟩

set_option maxRecDepth 100000 in
set_option maxHeartbeats 16000000 in
theorem heapGraph_any (w : World) (As : Option Addr) (n c : Nat) (l : List (Option Nat × Ob)) (regs : List Val) (gs : List (List Val)) (hgs : l.map (fun p => p.2.fields) = gs) (hl : PtrsRd w As n l) (hn : n ≤ 600) (h8 : regs.length = 8) (h4 : ∀ p ∈ l, p.2.n ≤ 4) (hvr : ValsOk gs.length regs) (hvg : ∀ fs ∈ gs, ValsOk gs.length fs) :
    Calls Try.prog 44 #[.slice As n c, .agg (vals regs).toArray] w fun e w' => ∃ v', e = .returned v' ∧ Below w.heap.size w w' ∧ GraphRd w' (fun g => w.heap.size ≤ g) v' (renumF gs (order gs regs)) (regs.map (turnL (order gs regs))) := by
  obtain ⟨g, hg⟩ : ∃ g, w.heap.size = g := ⟨_, rfl⟩
  have hS0 := ((((Sep.nil No w).blkAt 109 (vals regs).toArray hg).blkAt 27 #[.slice none 0 0, .slice none 0 0] (g := g + 1) (by simp [hg])).blkAt 27 #[.slice none 0 0, .slice (some ⟨g, 0, none⟩) 8 8] (g := g + 1 + 1) (by simp [hg])).nilRow 119 1
  have HS0 := hide hS0
  obtain ⟨a1, a2, a3, a4⟩ := hS0.rules 2 (g := g + 1 + 1) (t := 27) rfl
  have HLL := hide hl.len
  have HPT := hide (fun (X : World) (hb : Below w.heap.size w X) => hl.below hb)
  have HGL := hide (show gs.length = n by rw [← hgs, List.length_map]; exact hl.len)
  have HGS := hide hgs
  have H4 := hide h4
  have HVR := hide hvr
  have HVG := hide hvg
  have HOB := hide (show (l.map (·.2)).map Ob.fields = gs by rw [List.map_map]; exact hgs)
  have HVL := hide (show (vals regs).length = 8 * 2 by rw [vals_length, h8])
  obtain ⟨L, hL⟩ : ∃ L, order gs regs = L := ⟨_, rfl⟩
  rw [hL]
  obtain ⟨FF, hFF⟩ : ∃ F, renumF gs L = F := ⟨_, rfl⟩
  obtain ⟨RR, hRR⟩ : ∃ F, regs.map (turnL L) = F := ⟨_, rfl⟩
  rw [hFF, hRR]
  have HL := hide hL
  have HFF := hide hFF
  have HRR := hide hRR
  clear hS0 a1 hl hgs h4 hvr hvg hL hFF hRR
  go_enter Try.func44, Try.ntmps44
  go_wp2_with fail
  go_loopw [14] (fun i wr => ∃ (k : Nat) (A' : Option Addr) (c' : Nat), k ≤ n ∧ i = .int .i64 k ∧
    Sep No w wr [blkI g 109 (vals regs).toArray, blkI (g + 1) 27 #[.slice none 0 0, .slice none 0 0], blkI (g + 1 + 1) 27 #[.slice A' k c', .slice (some ⟨g, 0, none⟩) 8 8], rowI 119 1 A' k c' ((l.take k).map fun p => p.2.val)]) (fun i _ => n - (intOf i).toNat)
  case atStart => exact ⟨0, none, 0, by omega, rfl, HS0.out⟩
  case round =>
    clear HS0 a2 a3
    obtain ⟨k, A', c', hk, rfl, hS⟩ := hrel
    obtain ⟨x1, x2, x3, _⟩ := hS.rules 2 (g := g + 1 + 1) (t := 27) rfl
    have x5 := (x1 0).trans (show _ = some (.slice A' k c') from rfl)
    have x6 := (x1 1).trans (show _ = some (.slice (some ⟨g, 0, none⟩) 8 8) from rfl)
    by_cases hlt : k < n
    · have hP := HPT.out wr hS.below_
      obtain ⟨ad, hA, _, had, hc⟩ := hP.row.at_ hlt
      have hkl : k < l.length := by rw [HLL.out]; exact hlt
      have e1 := hc (.pointer (l[k].1.map fun B => ⟨B, 0, none⟩)) (by simp [List.getElem?_eq_getElem hkl])
      have hE := hP.each _ (List.getElem_mem hkl)
      have hG := hP.gone _ (List.getElem_mem hkl)
      have hT := List.take_succ_eq_append_getElem hkl
      obtain ⟨⟨pB, o⟩, hp⟩ : ∃ p, l[k] = p := ⟨_, rfl⟩
      rw [hp] at e1 hE hG hT
      have HT := hide (show (l.take (k + 1)).map (fun p => p.2.val) = (l.take k).map (fun p => p.2.val) ++ [Value.slice o.A o.n o.c] by rw [hT, List.map_append]; rfl)
      dsimp only at e1 hE hG
      subst hA
      cases pB with
      | none =>
        have hG2 := hG rfl
        subst hG2
        obtain ⟨b9, hb9⟩ : ∃ x, wr.heap.size = x := ⟨_, rfl⟩
        have hS1 := hS.blkAt 119 #[.slice none 0 0] hb9
        obtain ⟨y1, y2, y3, _⟩ := hS1.rules 2 (g := g + 1 + 1) (t := 27) rfl
        have y5 := (y1 0).trans (show _ = some (.slice A' k c') from rfl)
        obtain ⟨z1, z2, z3, _⟩ := hS1.rules 4 (g := b9) (t := 119) rfl
        have z5 := (z1 0).trans (show _ = some (.slice none 0 0) from rfl)
        have HS1 := hide hS1
        have HB9 := hide hb9
        obtain ⟨w1, hw1⟩ : ∃ x, wr.alloc (.cells #[.slice none 0 0] 119) = x := ⟨_, rfl⟩
        have HW1 := hide hw1
        rw [hw1] at y2 y3 y5 z2 z3 z5 HS1
        have z6 := (World.cell?_alloc_lt _ (.cells #[.slice none 0 0] 119) _ z3).trans z5
        have y6 := (World.cell?_alloc_lt _ (.cells #[.slice none 0 0] 119) _ y3).trans y5
        clear hc hE hG hP hT hp had hS hS1 hb9 hw1 x1 y1 z1
        go_wp2_with fail
        rw [HW1.out, HB9.out]
        go_region_law (first
          | (refine step_app1d (cs := #[.slice none 0 0]) rfl (.tmp 23) (.tmp 27) 24 rfl (F := No) (W := w) sObj (items := _ :: _ :: _ :: _ :: _) HS1.out 3 (n := k) rfl rfl rfl (by simp) rfl rfl (by omega) ?_
             intro A7 c7 w7 hS7 hC7
             obtain ⟨u1, u2, u3, _⟩ := hS7.rules 2 (g := g + 1 + 1) (t := 27) rfl
             (have u5 := (u1 0).trans (show _ = some (.slice A' k c') from rfl))
             clear u1 hC7))
        all_goals
          go_wp2_with fail
          go_roundw
          case rel => exact ⟨k + 1, A7, c7, by omega, by go_num, by
            rw [HT.out]
            exact (hS7.set_ 2 (g := g + 1 + 1) (t := 27) rfl 0 (.slice A7 (k + 1) c7)).sub (List.sublist_append_left [_, _, _, _] [_])⟩
          case measure => simp [intOf]; omega
      | some B =>
        obtain ⟨z3, z5, _⟩ := hE B rfl
        have z6 := (World.cell?_alloc_lt _ (.cells #[.slice o.A o.n o.c] 119) _ z3).trans z5
        have y6 := (World.cell?_alloc_lt _ (.cells #[.slice o.A o.n o.c] 119) _ x3).trans x5
        have HS1 := hide hS
        obtain ⟨oA, on, oc, ofs⟩ := o
        dsimp only at z5 z6 y6 HT
        clear hc hE hG hP hT hp had hS x1
        go_wp2_with fail
        go_region_law (first
          | (refine step_app1d (cs := #[.slice oA on oc]) rfl (.tmp 23) (.tmp 27) 24 rfl (F := No) (W := w) sObj (items := _ :: _ :: _ :: _ :: _) HS1.out 3 (n := k) rfl rfl rfl (by simp) rfl rfl (by omega) ?_
             intro A7 c7 w7 hS7 hC7
             obtain ⟨u1, u2, u3, _⟩ := hS7.rules 2 (g := g + 1 + 1) (t := 27) rfl
             (have u5 := (u1 0).trans (show _ = some (.slice A' k c') from rfl))
             clear u1 hC7))
        all_goals
          go_wp2_with fail
          go_roundw
          case rel => exact ⟨k + 1, A7, c7, by omega, by go_num, by
            rw [HT.out]
            exact hS7.set_ 2 (g := g + 1 + 1) (t := 27) rfl 0 (.slice A7 (k + 1) c7)⟩
          case measure => simp [intOf]; omega
    · obtain rfl : k = n := by omega
      rw [List.take_of_length_le (by rw [HLL.out]; exact Nat.le_refl _)] at hS
      have hOB : ∀ X, Sep No w X [blkI g 109 (vals regs).toArray, blkI (g + 1) 27 #[.slice none 0 0, .slice none 0 0], blkI (g + 1 + 1) 27 #[.slice A' k c', .slice (some ⟨g, 0, none⟩) 8 8], rowI 119 1 A' k c' (l.map fun p => p.2.val)] → ObsRd X (fun _ => True) A' k (l.map (·.2)) ∧ Rd X (fun _ => True) 2 (some ⟨g, 0, none⟩) 8 (vals regs) := fun X hX =>
        ⟨⟨by have := hX.rd_ 3 rfl; rw [List.map_map]; exact this, (HPT.out X hX.below_).obs⟩, rd_of_blk (hX.get 0 rfl) HVL.out⟩
      have hF4 : ∀ o ∈ l.map (·.2), o.n ≤ 4 := fun o ho => by
        obtain ⟨p, hp, rfl⟩ := List.mem_map.1 ho
        exact H4.out p hp
      have hok := order_ok HVG.out HVR.out
      have hf4 : ∀ fs ∈ gs, fs.length ≤ 4 := fun fs hfs => by
        rw [← HOB.out] at hfs
        obtain ⟨o, ho, rfl⟩ := List.mem_map.1 hfs
        have h1 := hF4 o ho
        have h2 := (hOB wr hS).1.flen ho
        omega
      have CF := found_any wr A' (some ⟨g, 0, none⟩) k c' 8 8 (l.map (·.2)) regs gs HOB.out (hOB wr hS).1 (hOB wr hS).2 (by omega) (by omega) (fun o ho => by have := hF4 o ho; omega) HVG.out HVR.out
      rw [(fndAll_eq HVG.out HVR.out).1] at CF
      have CR := hide (fun (X : World) (A : Option Addr) (m d : Nat) (hX : Sep No w X [blkI g 109 (vals regs).toArray, blkI (g + 1) 27 #[.slice none 0 0, .slice none 0 0], blkI (g + 1 + 1) 27 #[.slice A' k c', .slice (some ⟨g, 0, none⟩) 8 8], rowI 119 1 A' k c' (l.map fun p => p.2.val)]) (hr : Rd X (fun _ => True) 1 A m (ints (order gs regs))) =>
        renumP_any X _ A m d gs regs (order gs regs) (by have h := graphRd_of (cO := c') (hOB X hX).1 (cR := 8) (hOB X hX).2; rw [HOB.out] at h; exact h) hr hok.rng hok.nodup (by rw [HGL.out]; omega) (by have h1 : (order gs regs).length = m := (by have := hr.1; simpa using this); have := hok.len; have := HGL.out; omega) (by omega) (fun fs hfs => by have := hf4 fs hfs; omega) HVR.out HVG.out)
      simp only [HL.out] at CF CR
      generalize (fndAll gs regs).2 = DD at CF
      have HCF := hide CF
      have HS := hide hS
      simp only [HFF.out, HRR.out] at CR
      clear hOB hF4 hok hf4 CF hS x1 hk
      go_wp2_with fail
      refine HCF.out.mono ?_
      rintro e w3 ⟨A5, n5, c5, A6, c6, rfl, hP5⟩
      have hS3 := HS.out.below hP5.below_
      have CR3 := hide (CR.out w3 A5 n5 c5 hS3 (hP5.rd_ 0 rfl))
      obtain ⟨y1, y2, y3, _⟩ := hS3.rules 2 (g := g + 1 + 1) (t := 27) rfl
      have y5 := (y1 0).trans (show _ = some (.slice A' k c') from rfl)
      have y6 := (y1 1).trans (show _ = some (.slice (some ⟨g, 0, none⟩) 8 8) from rfl)
      have HS3 := hide hS3
      clear hP5 hS3 HS HCF CR y1 x2 x3 x5 x6
      go_wp2_with fail
      refine CR3.out.mono ?_
      rintro e w4 ⟨v', rfl, hb4, hg4⟩
      obtain ⟨B5, n5', d5, B6, n6, d6, obs', rfl, hO5, hF5, hR6⟩ := hg4.ex
      have hS4 := HS3.out.below hb4
      obtain ⟨x1, x2, x3, x4⟩ := hS4.rules 1 (g := g + 1) (t := 27) rfl
      have hsz : g + 1 < w3.heap.size := HS3.out.hi 1 rfl _ rfl
      have hws : w.heap.size ≤ w3.heap.size := HS3.out.below_.size
      have HG4 := hide hg4
      have HS4 := hide hS4
      clear hO5 hF5 hR6 hS4 hg4 hb4 HS3 CR3 x4 y2 y3 y5 y6
      go_wp2_with fail
      have hF := (HS4.out.set_ 1 (g := g + 1) (t := 27) rfl 0 (.slice B5 n5' d5)).set_ 1 (g := g + 1) (t := 27) rfl 1 (.slice B6 n6 d6)
      refine bodyPost_ret (v := .agg #[.slice B5 n5' d5, .slice B6 n6 d6]) (by simp [results, Try.results44, go_sem, x1]) rfl ⟨_, rfl, hF.below_, ?_⟩
      have hc : Chg (fun g' => g' = g + 1) w4 ((w4.setCell ⟨g + 1, 0, none⟩ (.slice B5 n5' d5)).setCell ⟨g + 1, 1, none⟩ (.slice B6 n6 d6)) := ((Chg.refl (fun g' => g' = g + 1) w4).setCell (p := ⟨g + 1, 0, none⟩) (.inl rfl) _).setCell (p := ⟨g + 1, 1, none⟩) (.inl rfl) _
      obtain ⟨C5, m5, k5, C6, m6, k6, obs2, he, hO5, hF5, hR6⟩ := HG4.out.ex
      exact ⟨C5, m5, k5, C6, m6, k6, obs2, he, (hO5.chg hc (fun g' hg hd => by subst hg; omega)).more (fun k _ hk => by omega), hF5, (hR6.chg hc (fun g' hg hd => by subst hg; omega)).more (fun k _ hk => by omega)⟩
end Go.Proofs.Ytjphckfbbiehdaa

namespace Go.Proofs.Ytjphckfbbiehdaa
open Go.RowKit

theorem first_cells (nR : Nat) (roots : List Val) (hl : roots.length = nR) (h8 : nR ≤ 8) : ((vals (zeroVs 8)).toArray.toList.take 0 ++ vals roots ++ (vals (zeroVs 8)).toArray.toList.drop (0 + (vals roots).length)) = vals (padR roots nR) := by
  rw [vals_length, hl, Nat.zero_add]
  unfold padR
  rw [List.take_zero, List.nil_append, List.take_of_length_le (by omega), vals_app, ← vals_rep nR h8]
theorem padR_zero (l : List Val) (h : l.length = 0) : padR l 0 = zeroVs 8 := by
  cases l with
  | nil => rfl
  | cons a l => simp at h

set_option maxRecDepth 100000 in
set_option maxHeartbeats 8000000 in
theorem heapFirst_any (w : World) (AO AR : Option Addr) (nO cO nR cR : Nat) (roots : List Val) (hR : Rd w (fun _ => True) 2 AR nR (vals roots)) (hnR : nR ≤ 8) :
    Calls Try.prog 72 #[.agg #[.slice AO nO cO, .slice AR nR cR]] w fun e w' => e = .returned (.agg (vals (padR roots nR)).toArray) ∧ Below w.heap.size w w' := by
  have hrl : roots.length = nR := by have := hR.1; rw [vals_length] at this; omega
  obtain ⟨g, hg⟩ : ∃ g, w.heap.size = g := ⟨_, rfl⟩
  have hmx : Try.prog.follows .mixedOrders = true := by kernel_rfl
  have hS0 := (((Sep.nil No w).blkAt 27 #[.slice AO nO cO, .slice AR nR cR] hg).blkAt 109 (vals (zeroVs 8)).toArray (g := g + 1) (by simp [hg])).blkAt 109 (vals (zeroVs 8)).toArray (g := g + 1 + 1) (by simp [hg])
  have hlit : (vals (zeroVs 8)).toArray = #[.bool false, .int .i64 0, .bool false, .int .i64 0, .bool false, .int .i64 0, .bool false, .int .i64 0, .bool false, .int .i64 0, .bool false, .int .i64 0, .bool false, .int .i64 0, .bool false, .int .i64 0] := rfl
  rw [hlit] at hS0
  obtain ⟨W, hW⟩ : ∃ X, ((w.alloc (.cells #[.slice AO nO cO, .slice AR nR cR] 27)).alloc (.cells #[.bool false, .int .i64 0, .bool false, .int .i64 0, .bool false, .int .i64 0, .bool false, .int .i64 0, .bool false, .int .i64 0, .bool false, .int .i64 0, .bool false, .int .i64 0, .bool false, .int .i64 0] 109)).alloc (.cells #[.bool false, .int .i64 0, .bool false, .int .i64 0, .bool false, .int .i64 0, .bool false, .int .i64 0, .bool false, .int .i64 0, .bool false, .int .i64 0, .bool false, .int .i64 0, .bool false, .int .i64 0] 109) = X := ⟨_, rfl⟩
  rw [hW] at hS0
  have hb := hS0.below_
  obtain ⟨a1, _, a3, _⟩ := hS0.rules 0 (g := g) (t := 27) rfl
  have a5 := (a1 1).trans (show _ = some (.slice AR nR cR) from rfl)
  obtain ⟨W', hcp, hS2⟩ : ∃ W', (Builtin.copy_ #[25, 25] 3 #[.slice (some ⟨g + 1 + 1, 0, none⟩) 8 8, .slice AR nR cR]).run Try.prog W.drew = .ok (goInt nR) W' ∧ Sep No w W' [blkI g 27 #[.slice AO nO cO, .slice AR nR cR], blkI (g + 1) 109 (vals (zeroVs 8)).toArray, blkI (g + 1 + 1) 109 (vals (padR roots nR)).toArray] := by
    rw [← hlit] at hS0
    rcases Nat.eq_zero_or_pos nR with h0 | h0
    · subst h0
      refine ⟨W.drew, run_copy_noneN W.drew 25 25 3 107 2 8 8 cR _ AR Try.underlying25 vSize, ?_⟩
      rw [padR_zero roots hrl]
      exact hS0.drew
    · obtain ⟨ad, hA, _, _, hc⟩ := (hR.below hb).2 h0
      subst hA
      have hB : Blk W (g + 1 + 1) 109 (vals (zeroVs 8)).toArray := hS0.get 2 rfl
      have hvl := vals_length roots
      have hz : (vals (zeroVs 8)).length = 16 := vals_length _
      have hrun := run_copy_rowN (P := Try.prog) W.drew 25 25 3 107 2 nR (g + 1 + 1) 0 8 8 ad nR cR (vals (zeroVs 8)).toArray 109 (vals roots) Try.underlying25 vSize hB (Nat.min_eq_left hnR) (by omega) hc (by rw [List.size_toArray]; omega) (fun v hv => by
        unfold vals at hv
        obtain ⟨x, _, hx⟩ := List.mem_flatMap.1 hv
        rcases List.mem_cons.1 hx with rfl | hx
        · rfl
        · rw [List.mem_singleton.1 hx]; rfl)
      rw [first_cells nR roots hrl hnR] at hrun
      refine ⟨_, hrun, ?_⟩
      have hst := hS0.drew.step 2 rfl (w' := W.drew.setRow (g + 1 + 1) (vals (padR roots nR)).toArray) ⟨rfl, rfl, rfl, by simp [World.setRow], fun k _ hk => setRow_other _ _ _ _ (fun e => hk e)⟩ (blkI (g + 1 + 1) 109 (vals (padR roots nR)).toArray) (setRow_heap _ _ _ _ _ _ hB) (fun _ h => .inl h)
      exact hst
  have hpl := padR_len roots nR (by omega) hnR
  have hi16 : (Try.prog.info? 109).map (·.size) = some 16 := by kernel_rfl
  have hcs : (vals (padR roots nR)).toArray.size = 16 := by rw [List.size_toArray, vals_length, hpl]
  have hone : (vals (padR roots nR)).toArray.all (·.oneCell') = true := by
    rw [List.all_toArray]
    unfold vals
    rw [List.all_flatMap]
    simp [Value.oneCell']
  obtain ⟨CS, hCS⟩ : ∃ c, (vals (padR roots nR)).toArray = c := ⟨_, rfl⟩
  rw [hCS] at hS2 hcs hone ⊢
  have hB1 : Blk W' (g + 1) 109 (vals (zeroVs 8)).toArray := hS2.get 1 rfl
  have hB2 : Blk W' (g + 1 + 1) 109 CS := hS2.get 2 rfl
  have hZ : (vals (zeroVs 8)).toArray.size = CS.size := by rw [hcs]; rfl
  rw [← hcs] at hi16
  have HB1 := hide hB1
  have HB2 := hide hB2
  have HS2 := hide hS2
  have HI := hide hi16
  have HZ := hide hZ
  have HO := hide hone
  clear hS0 hb hS2 a1 hpl hB1 hB2 hcs hi16 hZ hone hCS hR hrl
  go_enter Try.func72, Try.ntmps72
  go_wp2_with fail
  clear hW
  go_still_tail 3, hmx
  go_wp2_with (first
    | (refine wpList_load_row rfl 109 (.tmp 3) rfl (g + 1 + 1) rfl 109 CS (0, 0) _ HB2.out Try.underlying109 rfl HI.out ?_)
    | (refine wpList_store_row rfl 109 (.tmp 2) (.tmp 8) rfl (g + 1) CS rfl rfl 109 (vals (zeroVs 8)).toArray HB1.out HI.out HZ.out HO.out ?_))
  have hF := setRow_heap W' (g + 1) _ CS _ _ HB1.out
  have hb2 : Below w.heap.size w (W'.setRow (g + 1) CS) := below_setRow HS2.out.below_ (by omega) CS
  refine bodyPost_ret (v := .agg CS) (results_cell_row Try.results72 _ _ (g + 1) 109 CS (0, 0) _ rfl hF Try.underlying109 rfl HI.out) rfl ⟨rfl, hb2⟩

end Go.Proofs.Ytjphckfbbiehdaa

namespace Go.Proofs.Ytjphckfbbiehdaa
open Go.RowKit

theorem row2 {F : Nat → Prop} {W w : World} {items : List Item} (h : Sep F W w items) (k : Nat) {g t : Nat} (hk : items[k]? = some (blkI g t #[])) : Sep F W w (items.set k (rowI t 2 (some ⟨g, 0, none⟩) 0 0 [])) :=
  h.step k hk (Chg.refl _ w) _ ⟨by simp, .inr ⟨g, 0, #[], rfl, Nat.zero_le _, h.get k hk, Nat.le_refl _, by simp only [maxLen]; omega, rfl, by simp⟩⟩ (fun g' hg => .inl (by
    have : g = g' := by simpa [rowI, Value.ownBlock] using hg
    exact this.symm))
theorem eqlNilV (w : World) : (binOp .eql 25 (.slice none 0 0) (.slice none 0 0)).run Try.prog w = .ok (.bool true) w := by kernel_rfl
theorem eqlSomeV (w : World) (ad : Addr) (n c : Nat) : (binOp .eql 25 (.slice (some ad) n c) (.slice none 0 0)).run Try.prog w = .ok (.bool false) w := by
  have h := run_equal_slice_nil (P := Try.prog) w 25 107 (some ad) n c Try.underlying25
  unfold binOp
  simp [h, go_sem]
theorem vals_one (l : List Val) : ∀ u ∈ vals l, u.oneCell' = true := fun u hu => by
  unfold vals at hu
  obtain ⟨v, _, hv⟩ := List.mem_flatMap.1 hu
  simp at hv
  rcases hv with rfl | rfl <;> rfl
set_option maxRecDepth 100000 in
set_option maxHeartbeats 1600000 in
theorem cloneV_any (w : World) (A : Option Addr) (n c : Nat) (xs : List Val) (hA : A = none → c = 0) (hn : n ≤ 1000) (hR : Rd w (fun _ => True) 2 A n (vals xs)) :
    Calls Try.prog 137 #[.slice A n c] w fun e w' => ∃ A' c', e = .returned (.slice A' n c') ∧ Sep No w w' [rowI 107 2 A' n c' (vals xs)] := by
  cases A with
  | none =>
    obtain rfl := hA rfl
    have hn0 : n = 0 := by
      rcases Nat.eq_zero_or_pos n with h | h
      · exact h
      · obtain ⟨ad, h1, _⟩ := hR.2 h; cases h1
    subst hn0
    have hx : vals xs = [] := List.eq_nil_of_length_eq_zero (by have := hR.1; simpa using this)
    rw [hx]
    have HS := hide ((Sep.nil No w).nilRow 107 2)
    clear hx hR
    have hnil := eqlNilV
    go_enter Try.func137, Try.ntmps137
    go_wp2_with fail
    go_ret
    exact ⟨none, 0, rfl, HS.out⟩
  | some ad =>
    have hS := row2 ((Sep.nil No w).blkAt 107 #[] rfl) 0 rfl
    have hR1 := hR.below hS.below_
    have hnil := eqlSomeV
    go_enter Try.func137, Try.ntmps137
    go_wp2_with (first
      | (at_builtin
         refine wpList_app rfl (.tmp 5) (.tmp 6) 25 rfl sVal hS 0 (n := 0) rfl rfl rfl hR1 (vals_one _) (by omega) ?_
         intro A4 c4 w4 hS4 hC4))
    go_ret
    rw [Nat.zero_add] at hS4
    exact ⟨A4, c4, by first | rfl | simp, hS4⟩
end Go.Proofs.Ytjphckfbbiehdaa
