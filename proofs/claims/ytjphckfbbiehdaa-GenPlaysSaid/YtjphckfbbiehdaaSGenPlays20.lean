/- The reference's memory: made from a graph. The reference: two rows of answers are the same. -/
import Derived.Test.YtjphckfbbiehdaaSGenPlays19
set_option linter.unusedSimpArgs false
set_option linter.unusedVariables false
namespace Go.Proofs.Ytjphckfbbiehdaa
open Go.RowKit
def padR (l : List Val) (k : Nat) : List Val := l.take k ++ List.replicate (8 - k) (false, 0)
theorem padR_len (l : List Val) (k : Nat) (hk : k ≤ l.length) (h8 : k ≤ 8) : (padR l k).length = 8 := by
  unfold padR; rw [List.length_append, List.length_take, List.length_replicate]; omega
theorem padR_set (l : List Val) (k : Nat) (hk : k < l.length) (h8 : l.length ≤ 8) : (padR l k).set k l[k] = padR l (k + 1) := by
  unfold padR
  rw [List.set_append_right _ _ (by rw [List.length_take]; omega), List.length_take, Nat.min_eq_left (by omega), Nat.sub_self, show 8 - k = (8 - (k + 1)) + 1 from by omega, List.replicate_succ, List.set_cons_zero, List.take_succ_eq_append_getElem hk, List.append_assoc]
  rfl
theorem hmade8 : madeCells #[.bool false, .int .i64 0] (8 * 2) = (vals (zeroVs 8)).toArray := by
  apply Array.toList_inj.1; simp [madeCells, vals, zeroVs, List.range_succ, List.replicate]
theorem hval_make8 : ∀ w : World, (Instr.makeSlice 25 (.int .i64 8) (.int .i64 8)).run Try.prog w = .ok (.slice (some ⟨w.heap.size, 0, none⟩) 8 8) (w.alloc (.cells (vals (zeroVs 8)).toArray 107)) := by
  intro w
  obtain ⟨i, hi, hz, hs, hb⟩ := info_parts hval_info
  have h := run_make w 25 107 i _ Try.underlying25 hi hz .i64 .i64 8 8 (by omega) (Int.le_refl _) (by rw [hb]; omega) (by omega)
  simp only [show ((8 : Int)).toNat = 8 from rfl, hs] at h
  rw [show (Value.agg #[.bool false, .int .i64 0]).cells = #[.bool false, .int .i64 0] from rfl, hmade8] at h
  exact h
theorem hbool_info : (Try.prog.info? 4).map (fun i => (i.zero, i.size, i.bytes)) = some (some (.bool false), 1, 1) := by kernel_rfl
theorem hbool_made (n : Nat) : madeCells (Value.cells (.bool false)) (n * 1) = (bools (List.replicate n false)).toArray := by
  apply Array.toList_inj.1
  rcases Nat.eq_zero_or_pos n with rfl | h
  · simp [madeCells, bools]
  · apply List.ext_getElem (by simp [madeCells, Value.cells, bools])
    intro i h1 h2
    simp [madeCells, Value.cells, bools, Nat.mod_one]
theorem hbool_make (n : Nat) (hn : n ≤ 1000) : ∀ w : World, (Instr.makeSlice 63 (.int .i64 (n : Int)) (.int .i64 (n : Int))).run Try.prog w = .ok (.slice (some ⟨w.heap.size, 0, none⟩) n n) (w.alloc (.cells (bools (List.replicate n false)).toArray 4)) := by
  intro w
  obtain ⟨i, hi, hz, hs, hb⟩ := info_parts hbool_info
  have h := run_make w 63 4 i _ Try.underlying63 hi hz .i64 .i64 n n (by omega) (Int.le_refl _) (by rw [hb]; omega) (by omega)
  simp only [Int.toNat_natCast, hs] at h
  rw [hbool_made n] at h
  exact h
theorem nm_perm4 {α : Type} (a b c d : α) (l : List α) : (a :: b :: c :: d :: l).Perm (c :: a :: d :: b :: l) := by
  have h1 : (a :: b :: c :: d :: l).Perm (a :: c :: b :: d :: l) := (List.Perm.swap c b (d :: l)).cons a
  have h2 : (a :: c :: b :: d :: l).Perm (c :: a :: b :: d :: l) := List.Perm.swap c a (b :: d :: l)
  have h3 : (c :: a :: b :: d :: l).Perm (c :: a :: d :: b :: l) := ((List.Perm.swap d b l).cons a).cons c
  exact (h1.trans h2).trans h3
theorem nm_snoc {w X : World} {A5 A7 : Option Addr} {n c5 q c7 : Nat} {fs : List Val} {obs' : List Ob} {x1 x2 x3 x4 x5 x6 : Item}
    (h : Sep No w X (rowI 107 2 A5 n c5 (vals fs) :: x1 :: x2 :: x3 :: x4 :: x5 :: x6 :: rowI 119 1 A7 (q + 1) c7 (obs'.map Ob.val ++ [.slice A5 n c5]) :: obs'.map obI)) :
    Sep No w X (x3 :: x4 :: x5 :: x6 :: rowI 119 1 A7 (q + 1) c7 ((obs' ++ [(⟨A5, n, c5, fs⟩ : Ob)]).map Ob.val) :: (obs' ++ [(⟨A5, n, c5, fs⟩ : Ob)]).map obI) := by
  have h1 := (h.sub (l := rowI 107 2 A5 n c5 (vals fs) :: x3 :: x4 :: x5 :: x6 :: rowI 119 1 A7 (q + 1) c7 (obs'.map Ob.val ++ [.slice A5 n c5]) :: obs'.map obI) (.cons_cons _ (.cons _ (.cons _ (List.Sublist.refl _))))).perm (List.perm_append_comm (l₁ := [_]))
  rw [List.map_append, List.map_append]
  exact h1
theorem nm_fin {w X : World} {gr gm q c' : Nat} {A' : Option Addr} {regs : List Val} {obs' : List Ob} {gb : Nat} {x : Item} (h8 : regs.length = 8) (ho : obs'.length = q)
    (h : Sep No w X (x :: rowI 107 2 (some ⟨gr, 0, none⟩) 8 8 (vals regs) :: rowI 4 1 (some ⟨gb, 0, none⟩) q q (bools (List.replicate q false)) :: blkI gm 176 #[.slice (some ⟨gr, 0, none⟩) 8 8, .slice A' q c', .slice (some ⟨gb, 0, none⟩) q q] :: rowI 119 1 A' q c' (obs'.map Ob.val) :: obs'.map obI)) :
    Sep No w X [rmI gm ⟨gr, 8, regs, A', c', obs', some ⟨gb, 0, none⟩, q, List.replicate q false⟩] := by
  have h1 := (h.sub (List.sublist_cons_self _ _)).perm (nm_perm4 _ _ _ _ _)
  refine Sep.fold (l := rmL gm _) ?_
  unfold rmL
  dsimp only
  rw [h8, ho, List.length_replicate]
  exact h1
set_option maxRecDepth 100000 in
set_option maxHeartbeats 16000000 in
theorem newMem_any (w : World) (AO AR : Option Addr) (nO cO nR cR : Nat) (obs : List Ob) (roots : List Val) (gs : List (List Val)) (hgs : obs.map Ob.fields = gs) (hO : ObsRd w (fun _ => True) AO nO obs) (hR : Rd w (fun _ => True) 2 AR nR (vals roots)) (hnO : nO ≤ 500) (hnR : nR ≤ 8) (h4 : ∀ o ∈ obs, o.n ≤ 4) :
    Calls Try.prog 68 #[.agg #[.slice AO nO cO, .slice AR nR cR]] w fun e w' => ∃ Bm s, e = .returned (.pointer (some ⟨Bm, 0, none⟩)) ∧ absR s = ⟨padR roots nR, gs⟩ ∧ s.gone = List.replicate nO false ∧ Sep No w w' [rmI Bm s] := by
  have HRL := hide (show roots.length = nR by have := hR.1; rw [vals_length] at this; omega)
  have HGS := hide hgs
  have H4 := hide h4
  obtain ⟨g, hg⟩ : ∃ g, w.heap.size = g := ⟨_, rfl⟩
  have hl8 : (vals (zeroVs 8)).toArray.size = 8 * 2 := rfl
  have hlb : (bools (List.replicate nO false)).toArray.size = nO * 1 := by simp [bools]
  have HA := hide (show Sep No w ((((w.alloc (.cells #[.slice AO nO cO, .slice AR nR cR] 27)).alloc (.cells (vals (zeroVs 8)).toArray 107)).alloc (.cells (bools (List.replicate nO false)).toArray 4)).alloc (.cells #[.slice (some ⟨g + 1, 0, none⟩) 8 8, .slice none 0 0, .slice (some ⟨g + 1 + 1, 0, none⟩) nO nO] 176)).drew [blkI g 27 #[.slice AO nO cO, .slice AR nR cR], rowI 107 2 (some ⟨g + 1, 0, none⟩) 8 8 (vals (padR roots 0)), rowI 4 1 (some ⟨g + 1 + 1, 0, none⟩) nO nO (bools (List.replicate nO false)), blkI (g + 1 + 1 + 1) 176 #[.slice (some ⟨g + 1, 0, none⟩) 8 8, .slice none 0 0, .slice (some ⟨g + 1 + 1, 0, none⟩) nO nO], rowI 119 1 none 0 0 []] from by
    have h1 := (((Sep.nil No w).blkAt 27 #[.slice AO nO cO, .slice AR nR cR] hg).blkAt 107 (vals (zeroVs 8)).toArray (g := g + 1) (by simp [hg])).blkAt 4 (bools (List.replicate nO false)).toArray (g := g + 1 + 1) (by simp [hg])
    have h2 := h1.step 1 rfl (Chg.refl _ _) _ (hrow_of_blk (n := 8) (size := 2) (show Blk _ (g + 1) 107 _ from h1.get 1 rfl) hl8 (by unfold maxLen; omega)) (fun g' hg' => .inl (by
      have : g + 1 = g' := by simpa [rowI, Value.ownBlock] using hg'
      exact this.symm))
    have h3 := h2.step 2 rfl (Chg.refl _ _) _ (hrow_of_blk (n := nO) (size := 1) (show Blk _ (g + 1 + 1) 4 _ from h1.get 2 rfl) hlb (by unfold maxLen; omega)) (fun g' hg' => .inl (by
      have : g + 1 + 1 = g' := by simpa [rowI, Value.ownBlock] using hg'
      exact this.symm))
    exact ((h3.blkAt 176 #[.slice (some ⟨g + 1, 0, none⟩) 8 8, .slice none 0 0, .slice (some ⟨g + 1 + 1, 0, none⟩) nO nO] (g := g + 1 + 1 + 1) (by simp [hg])).nilRow 119 1).drew)
  have HB := hide (show Sep No w ((((w.alloc (.cells #[.slice AO nO cO, .slice AR nR cR] 27)).alloc (.cells (bools (List.replicate nO false)).toArray 4)).alloc (.cells (vals (zeroVs 8)).toArray 107)).alloc (.cells #[.slice (some ⟨g + 1 + 1, 0, none⟩) 8 8, .slice none 0 0, .slice (some ⟨g + 1, 0, none⟩) nO nO] 176)).drew [blkI g 27 #[.slice AO nO cO, .slice AR nR cR], rowI 107 2 (some ⟨g + 1 + 1, 0, none⟩) 8 8 (vals (padR roots 0)), rowI 4 1 (some ⟨g + 1, 0, none⟩) nO nO (bools (List.replicate nO false)), blkI (g + 1 + 1 + 1) 176 #[.slice (some ⟨g + 1 + 1, 0, none⟩) 8 8, .slice none 0 0, .slice (some ⟨g + 1, 0, none⟩) nO nO], rowI 119 1 none 0 0 []] from by
    have h1 := (((Sep.nil No w).blkAt 27 #[.slice AO nO cO, .slice AR nR cR] hg).blkAt 4 (bools (List.replicate nO false)).toArray (g := g + 1) (by simp [hg])).blkAt 107 (vals (zeroVs 8)).toArray (g := g + 1 + 1) (by simp [hg])
    have h2 := h1.step 2 rfl (Chg.refl _ _) _ (hrow_of_blk (n := 8) (size := 2) (show Blk _ (g + 1 + 1) 107 _ from h1.get 2 rfl) hl8 (by unfold maxLen; omega)) (fun g' hg' => .inl (by
      have : g + 1 + 1 = g' := by simpa [rowI, Value.ownBlock] using hg'
      exact this.symm))
    have h3 := h2.step 1 rfl (Chg.refl _ _) _ (hrow_of_blk (n := nO) (size := 1) (show Blk _ (g + 1) 4 _ from h1.get 1 rfl) hlb (by unfold maxLen; omega)) (fun g' hg' => .inl (by
      have : g + 1 = g' := by simpa [rowI, Value.ownBlock] using hg'
      exact this.symm))
    exact ((h3.perm (((List.Perm.swap _ _ _)).cons _)).blkAt 176 #[.slice (some ⟨g + 1 + 1, 0, none⟩) 8 8, .slice none 0 0, .slice (some ⟨g + 1, 0, none⟩) nO nO] (g := g + 1 + 1 + 1) (by simp [hg]) |>.nilRow 119 1).drew)
  clear hl8 hlb
  have hmk := hval_make8
  have hmb := hbool_make nO (by omega)
  clear hgs h4
  go_enter Try.func68, Try.ntmps68
  go_wp2_with fail
  go_region_law (fail)
  all_goals
    first
      | (obtain ⟨W, hW⟩ : ∃ X, ((((w.alloc (.cells #[.slice AO nO cO, .slice AR nR cR] 27)).alloc (.cells (vals (zeroVs 8)).toArray 107)).alloc (.cells (bools (List.replicate nO false)).toArray 4)).alloc (.cells #[.slice (some ⟨g + 1, 0, none⟩) 8 8, .slice none 0 0, .slice (some ⟨g + 1 + 1, 0, none⟩) nO nO] 176)).drew = X := ⟨_, rfl⟩
         (have hS := HA.out)
         rw [hW] at hS ⊢
         clear hW
         obtain ⟨gm, hgm⟩ : ∃ x, g + 1 + 1 + 1 = x := ⟨_, rfl⟩
         rw [hgm] at hS ⊢
         obtain ⟨gb, hgb⟩ : ∃ x, g + 1 + 1 = x := ⟨_, rfl⟩
         rw [hgb] at hS ⊢
         obtain ⟨gv, hgv⟩ : ∃ x, g + 1 = x := ⟨_, rfl⟩
         rw [hgv] at hS ⊢
         clear HA HB hmk hmb hg)
      | (obtain ⟨W, hW⟩ : ∃ X, ((((w.alloc (.cells #[.slice AO nO cO, .slice AR nR cR] 27)).alloc (.cells (bools (List.replicate nO false)).toArray 4)).alloc (.cells (vals (zeroVs 8)).toArray 107)).alloc (.cells #[.slice (some ⟨g + 1 + 1, 0, none⟩) 8 8, .slice none 0 0, .slice (some ⟨g + 1, 0, none⟩) nO nO] 176)).drew = X := ⟨_, rfl⟩
         (have hS := HB.out)
         rw [hW] at hS ⊢
         clear hW
         obtain ⟨gm, hgm⟩ : ∃ x, g + 1 + 1 + 1 = x := ⟨_, rfl⟩
         rw [hgm] at hS ⊢
         obtain ⟨gv, hgv⟩ : ∃ x, g + 1 + 1 = x := ⟨_, rfl⟩
         rw [hgv] at hS ⊢
         obtain ⟨gb, hgb⟩ : ∃ x, g + 1 = x := ⟨_, rfl⟩
         rw [hgb] at hS ⊢
         clear HA HB hmk hmb hg)
    have q1 : gv ≠ gm := by omega
    have q2 : g ≠ gv := by omega
    have q3 : gb ≠ gm := by omega
    have HS := hide hS
    clear hS hgm hgv hgb
    go_wp2_with fail
    go_loopw [4] (fun s wr => ∃ (k : Nat), k ≤ nR ∧ s = .int .i64 k ∧ Sep No w wr [blkI g 27 #[.slice AO nO cO, .slice AR nR cR], rowI 107 2 (some ⟨gv, 0, none⟩) 8 8 (vals (padR roots k)), rowI 4 1 (some ⟨gb, 0, none⟩) nO nO (bools (List.replicate nO false)), blkI gm 176 #[.slice (some ⟨gv, 0, none⟩) 8 8, .slice none 0 0, .slice (some ⟨gb, 0, none⟩) nO nO], rowI 119 1 none 0 0 []]) (fun s _ => nR - (intOf s).toNat)
    case atStart => exact ⟨0, by omega, rfl, HS.out⟩
    case round =>
      clear HS
      obtain ⟨k, hk, rfl, hS⟩ := hrel
      obtain ⟨x1, x2, x3, _⟩ := hS.rules 0 (g := g) (t := 27) rfl
      have x5 := (x1 0).trans (show _ = some (.slice AO nO cO) from rfl)
      have x6 := (x1 1).trans (show _ = some (.slice AR nR cR) from rfl)
      obtain ⟨y1, y2, y3, _⟩ := hS.rules 3 (g := gm) (t := 176) rfl
      have y6 := (y1 2).trans (show _ = some (.slice (some ⟨gb, 0, none⟩) nO nO) from rfl)
      by_cases hlt : k < nR
      · have hkl : k < roots.length := by rw [HRL.out]; exact hlt
        obtain ⟨ad, hA, _, had, hc3, hd3⟩ := (hR.below hS.below_).atN hlt
        obtain ⟨v0, v1⟩ := vals_at roots k hkl
        have e0 := hc3 _ v0
        have e1 := hd3 0 _ v1
        obtain ⟨L, hL⟩ : ∃ x : Nat, x = 8 := ⟨8, rfl⟩
        have y5 := (y1 0).trans (show _ = some (.slice (some ⟨gv, 0, none⟩) L L) from by rw [hL]; rfl)
        have z1 : k < L := by omega
        have hpl := padR_len roots k (by omega) (by omega)
        obtain ⟨r0, r1, r2, r3⟩ := hrow_val (show (rowI 107 2 (some ⟨gv, 0, none⟩) 8 8 (vals (padR roots k))).P wr from hS.get 1 rfl) k (by omega) (by omega)
        obtain ⟨pu, hpu⟩ : ∃ u, (padR roots k)[k] = u := ⟨_, rfl⟩
        rw [hpu] at r0 r1
        have h9 := hS.store2 1 (g := gv) rfl (k * 2) (.bool roots[k].1) (.int .i64 roots[k].2)
        rw [vals_set2, show (roots[k].1, roots[k].2) = roots[k] from rfl, padR_set roots k hkl (by rw [HRL.out]; exact hnR)] at h9
        have HS9 := hide h9
        have hmx : Try.prog.follows .mixedOrders = true := by kernel_rfl
        obtain ⟨u, hu⟩ : ∃ u, roots[k] = u := ⟨_, rfl⟩
        rw [hu] at e0 e1 HS9
        subst hA
        clear hpu
        clear hL hS h9 hc3 hd3 v0 v1 hu x1 y1 hpl
        go_wp2_with fail
        go_still_tail 10, hmx
        go_wp2_with fail
        go_roundw
        case rel => exact ⟨k + 1, by omega, by go_num, HS9.out.drew⟩
        case measure => simp [intOf]; omega
      · obtain rfl : k = nR := by omega
        have y5 := (y1 0).trans (show _ = some (.slice (some ⟨gv, 0, none⟩) 8 8) from rfl)
        have HS := hide hS
        clear hS x1 y1 hk
        go_wp2_with fail
        go_loopw [38] (fun i wr => ∃ (q : Nat) (A' : Option Addr) (c' : Nat) (obs' : List Ob), q ≤ nO ∧ i = .int .i64 q ∧ Hid (obs'.map Ob.fields = gs.take q) ∧
          Sep No w wr (blkI g 27 #[.slice AO nO cO, .slice AR k cR] :: rowI 107 2 (some ⟨gv, 0, none⟩) 8 8 (vals (padR roots k)) :: rowI 4 1 (some ⟨gb, 0, none⟩) nO nO (bools (List.replicate nO false)) :: blkI gm 176 #[.slice (some ⟨gv, 0, none⟩) 8 8, .slice A' q c', .slice (some ⟨gb, 0, none⟩) nO nO] :: rowI 119 1 A' q c' (obs'.map Ob.val) :: obs'.map obI)) (fun i _ => nO - (intOf i).toNat)
        case atStart => exact ⟨0, none, 0, [], by omega, rfl, by simp [Hid], HS.out⟩
        case round =>
          clear HS x2 x3 x5 x6 y2 y3 y5 y6
          obtain ⟨q, A', c', obs', hq, rfl, HO, hS⟩ := hrel
          by_cases hlq : q < nO
          · obtain ⟨ad2, hA2, _, had2, hc2⟩ := (hO.below hS.below_).row.at_ hlq
            have hxl : q < obs.length := by rw [hO.len]; exact hlq
            have e1 := hc2 obs[q].val (by simp [List.getElem?_eq_getElem hxl])
            have hEach := hO.each _ (List.getElem_mem hxl)
            have hFl := hO.flen (List.getElem_mem hxl)
            have ho4 := H4.out _ (List.getElem_mem hxl)
            have hgt : gs.take (q + 1) = gs.take q ++ [obs[q].fields] := by
              rw [← HGS.out, ← List.map_take, ← List.map_take, List.take_succ_eq_append_getElem hxl, List.map_append]; rfl
            have HGT := hide hgt
            obtain ⟨o, ho⟩ : ∃ o, obs[q] = o := ⟨_, rfl⟩
            rw [ho] at e1 hEach hFl ho4 HGT
            unfold Ob.val at e1
            obtain ⟨b6, hb6⟩ : ∃ x, wr.heap.size = x := ⟨_, rfl⟩
            have hS1 := ((((hS.blkAt 119 #[.slice o.A o.n o.c] hb6).blkAt 119 #[.slice none 0 0] (g := b6 + 1) (by simp [hb6])).perm List.perm_append_comm).perm (l := blkI (b6 + 1) 119 #[.slice none 0 0] :: blkI b6 119 #[.slice o.A o.n o.c] :: _) (List.Perm.append_left [_] List.perm_append_comm)).nilRow0 107 2
            have HS1 := hide hS1
            subst hA2
            clear hc2 ho hgt hS1 hS had2
            obtain ⟨oA, on, oc, ofs⟩ := o
            dsimp only at e1 hEach hFl ho4 HGT HS1
            go_wp2_with fail
            go_loopw [46] (fun s wr2 => ∃ (j : Nat) (A5 : Option Addr) (c5 : Nat), j ≤ on ∧ s = .int .i64 j ∧ Sep No w wr2 (rowI 107 2 A5 j c5 (vals (ofs.take j)) :: blkI (b6 + 1) 119 #[.slice A5 j c5] :: blkI b6 119 #[.slice oA on oc] :: blkI g 27 #[.slice (some ad2) nO cO, .slice AR k cR] :: rowI 107 2 (some ⟨gv, 0, none⟩) 8 8 (vals (padR roots k)) :: rowI 4 1 (some ⟨gb, 0, none⟩) nO nO (bools (List.replicate nO false)) :: blkI gm 176 #[.slice (some ⟨gv, 0, none⟩) 8 8, .slice A' q c', .slice (some ⟨gb, 0, none⟩) nO nO] :: rowI 119 1 A' q c' (obs'.map Ob.val) :: obs'.map obI)) (fun s _ => on - (intOf s).toNat)
            case atStart => exact ⟨0, none, 0, by omega, rfl, HS1.out⟩
            case round =>
              clear HS1
              obtain ⟨j, A5, c5, hj, rfl, hS⟩ := hrel
              obtain ⟨x1, x2, x3, _⟩ := hS.rules 1 (g := b6 + 1) (t := 119) rfl
              have x5 := (x1 0).trans (show _ = some (.slice A5 j c5) from rfl)
              by_cases hlj : j < on
              · have hjl : j < ofs.length := by omega
                obtain ⟨ad3, hA3, _, had3, hc3, hd3⟩ := (hEach.below hS.below_).atN hlj
                obtain ⟨v0, v1⟩ := vals_at ofs j hjl
                have e0 := hc3 _ v0
                have e2 := hd3 0 _ v1
                have hT := List.take_succ_eq_append_getElem hjl
                obtain ⟨u, hu⟩ : ∃ u, ofs[j] = u := ⟨_, rfl⟩
                rw [hu] at e0 e2 hT
                have HT := hide hT
                obtain ⟨ub, um⟩ := u
                dsimp only at e0 e2
                obtain ⟨b9, hb9⟩ : ∃ x, wr.heap.size = x := ⟨_, rfl⟩
                have hS2 := hS.blkAt 107 #[.bool ub, .int .i64 um] hb9
                have x6 := (World.cell?_alloc_lt _ (.cells #[.bool ub, .int .i64 um] 107) _ x3).trans x5
                subst hA3
                clear hc3 hd3 v0 v1 hu hT had3 hS x1
                go_wp2_with (first
                  | (at_builtin
                     refine wpList_app1 (cs := #[.bool ub, .int .i64 um]) rfl (.tmp 51) (.tmp 53) 25 rfl (F := No) (W := w) sVal (items := _ :: _) hS2 0 (n := j) rfl rfl rfl (by simp [hb9]) rfl rfl (by omega) ?_
                     intro A6 c6 w6 hS6 hC6
                     obtain ⟨y1, y2, y3, _⟩ := hS6.rules 1 (g := b6 + 1) (t := 119) rfl
                     (have y5 := (y1 0).trans (show _ = some (.slice A5 j c5) from rfl))
                     (have HS7 := hide (hS6.set_ 1 (g := b6 + 1) (t := 119) rfl 0 (.slice A6 (j + 1) c6)))
                     clear y1 hS6 hC6 hS2))
                go_roundw
                case rel => exact ⟨j + 1, A6, c6, by omega, by go_num, by
                  have h7 := HS7.out.sub (List.sublist_append_left (_ :: _ :: _ :: _ :: _ :: _ :: _ :: _ :: obs'.map obI) _)
                  rw [HT.out, vals_app]
                  exact h7⟩
                case measure => simp [intOf]; omega
              · obtain rfl : j = on := by omega
                rw [List.take_of_length_le (by omega)] at hS
                obtain ⟨y1, y2, y3, _⟩ := hS.rules 6 (g := gm) (t := 176) rfl
                have y5 := (y1 1).trans (show _ = some (.slice A' q c') from rfl)
                have HS := hide hS
                clear x1 y1 hS
                go_wp2_with fail
                go_region_law (first
                  | (refine step_app1d (cs := #[.slice A5 j c5]) rfl (.tmp 61) (.tmp 63) 24 rfl (F := No) (W := w) sObj (items := _ :: _ :: _ :: _ :: _ :: _ :: _ :: _ :: _) HS.out 7 (n := q) rfl rfl rfl (by simp) rfl rfl (by omega) ?_
                     intro A7 c7 w7 hS7 hC7
                     obtain ⟨z1, z2, z3, z4⟩ := hS7.rules 6 (g := gm) (t := 176) rfl
                     (have z5 := (z1 1).trans (show _ = some (.slice A' q c') from rfl))
                     clear z1 z4))
                all_goals
                  have HS8 := hide (nm_snoc (hS7.set_ 6 (g := gm) (t := 176) rfl 1 (.slice A7 (q + 1) c7)))
                  clear hS7 hC7
                  go_wp2_with fail
                  go_roundw
                  case rel => exact ⟨q + 1, A7, c7, obs' ++ [(⟨A5, j, c5, ofs⟩ : Ob)], by omega, by go_num, by
                    show (obs' ++ [(⟨A5, j, c5, ofs⟩ : Ob)]).map Ob.fields = gs.take (q + 1)
                    rw [List.map_append, HO.out, HGT.out]; rfl, HS8.out⟩
                  case measure => simp [intOf]; omega
          · obtain rfl : q = nO := by omega
            go_wp2_with fail
            go_ret
            refine ⟨gm, ⟨gv, 8, padR roots k, A', c', obs', some ⟨gb, 0, none⟩, q, List.replicate q false⟩, rfl, ?_, rfl, ?_⟩
            · unfold absR
              dsimp only
              have h := HO.out
              rw [h, ← HGS.out, List.take_of_length_le (by rw [List.length_map, hO.len]; omega)]
            · have hol := congrArg List.length HO.out
              rw [List.length_map, List.length_take, ← HGS.out, List.length_map, hO.len, Nat.min_self] at hol
              exact nm_fin (padR_len roots k (by rw [HRL.out]; omega) hnR) hol hS
end Go.Proofs.Ytjphckfbbiehdaa

namespace Go.Proofs.Ytjphckfbbiehdaa
open Go.RowKit
def outsV (l : List OutV) : List Value := l.flatMap fun o => [.int .i64 o.code, .bool o.rf, .int .i64 o.n]
theorem outsV_length (l : List OutV) : (outsV l).length = l.length * 3 := by
  unfold outsV; induction l with
  | nil => rfl
  | cons a l ih => simp [List.flatMap_cons] at ih ⊢; omega
theorem outsV_at (l : List OutV) (k : Nat) (h : k < l.length) : (outsV l)[k * 3]? = some (.int .i64 l[k].code) ∧ (outsV l)[k * 3 + 1]? = some (.bool l[k].rf) ∧ (outsV l)[k * 3 + 2]? = some (.int .i64 l[k].n) := by
  unfold outsV
  induction l generalizing k with
  | nil => simp at h
  | cons a l ih =>
    cases k with
    | zero => exact ⟨rfl, rfl, rfl⟩
    | succ k =>
      have h2 := ih k (by simpa using h)
      rw [List.flatMap_cons, show (k + 1) * 3 = k * 3 + 1 + 1 + 1 from by omega]
      exact h2
theorem neq_out (w : World) (c : Int) (b : Bool) (n : Int) : (binOp .neq 41 (.agg #[.int .i64 c, .bool b, .int .i64 n]) (.agg #[.int .i64 c, .bool b, .int .i64 n])).run Try.prog w = .ok (.bool false) w := by
  have h1 : Try.prog.underlying 41 = some (.struct (Try.prog.fieldsOf 41)) := by kernel_rfl
  have h2 : Try.prog.stoodInHeld 41 = false := by kernel_rfl
  obtain ⟨F, hF⟩ : ∃ F, (Try.prog.fieldsOf 41).toList = F := ⟨_, rfl⟩
  have h5 : F = [F[0]!, F[1]!, F[2]!] := by rw [← hF]; kernel_rfl
  have n1 : (F[0]!).name ≠ "_" := by rw [← hF]; rw [show ((Try.prog.fieldsOf 41).toList[0]!).name = "Code" from by kernel_rfl]; decide
  have n2 : (F[1]!).name ≠ "_" := by rw [← hF]; rw [show ((Try.prog.fieldsOf 41).toList[1]!).name = "Ref" from by kernel_rfl]; decide
  have n3 : (F[2]!).name ≠ "_" := by rw [← hF]; rw [show ((Try.prog.fieldsOf 41).toList[2]!).name = "N" from by kernel_rfl]; decide
  obtain ⟨t0, ht0⟩ : ∃ t, (F[0]!).type = t := ⟨_, rfl⟩
  obtain ⟨t1, ht1⟩ : ∃ t, (F[1]!).type = t := ⟨_, rfl⟩
  obtain ⟨t2, ht2⟩ : ∃ t, (F[2]!).type = t := ⟨_, rfl⟩
  have u0 : ∃ k, Try.prog.underlying t0 = some (.int k) := by rw [← ht0, ← hF]; exact ⟨.i64, by kernel_rfl⟩
  have u1 : Try.prog.underlying t1 = some .bool := by rw [← ht1, ← hF]; kernel_rfl
  have u2 : ∃ k, Try.prog.underlying t2 = some (.int k) := by rw [← ht2, ← hF]; exact ⟨.i64, by kernel_rfl⟩
  have o0 : ∀ x y z, (part t0 #[x, y, z] (F[0]!).offset).run Try.prog w = .ok x w := fun x y z => by rw [← ht0, ← hF]; kernel_rfl
  have o1 : ∀ x y z, (part t1 #[x, y, z] (F[1]!).offset).run Try.prog w = .ok y w := fun x y z => by rw [← ht1, ← hF]; kernel_rfl
  have o2 : ∀ x y z, (part t2 #[x, y, z] (F[2]!).offset).run Try.prog w = .ok z w := fun x y z => by rw [← ht2, ← hF]; kernel_rfl
  rw [run_neq_struct, run_equalIn_agg _ _ _ _ _ h1 h2, hF, h5]
  obtain ⟨k0, u0⟩ := u0
  obtain ⟨k2, u2⟩ := u2
  simp only [Op.eqFields, ht0, ht1, ht2, n1, n2, n3, ne_eq, not_false_iff, if_true, Sem.run_ite, Sem.run_bind, o0, o1, o2, Result.andThen_ok, run_equalIn_bool' w _ _ _ _ u1, run_equalIn_int w _ _ _ _ _ _ u0, run_equalIn_int w _ _ _ _ _ _ u2]
  simp
theorem guard_out (w : World) (x y : Operand) (a b : Array Value) : (eqGuard .neq 41 x y (.agg a) (.agg b)).run Try.prog w = .ok () w :=
  run_eqGuard_agg w .neq _ x y _ _ (by kernel_rfl)
set_option maxRecDepth 100000 in
set_option maxHeartbeats 8000000 in
theorem outs_any (w : World) (A1 A2 : Option Addr) (n c1 c2 : Nat) (os : List OutV) (hn : n ≤ 1000) (h1 : Rd w (fun _ => True) 3 A1 n (outsV os)) (h2 : Rd w (fun _ => True) 3 A2 n (outsV os)) :
    Calls Try.prog 30 #[.slice A1 n c1, .slice A2 n c2] w fun e w' => e = .returned (.bool true) ∧ Below w.heap.size w w' := by
  have HL := hide (show os.length = n by have := h1.1; rw [outsV_length] at this; omega)
  have hng := neq_out
  have hgd := guard_out
  go_enter Try.func30, Try.ntmps30
  go_wp2_with fail
  go_loopw [5] (fun s wr => ∃ (k : Nat), k ≤ n ∧ s = .int .i64 k ∧ Below w.heap.size w wr) (fun s _ => n - (intOf s).toNat)
  case atStart => exact ⟨0, by omega, rfl, Below.refl _ _⟩
  case round =>
    obtain ⟨k, hk, rfl, hb⟩ := hrel
    by_cases hlt : k < n
    · have hkl : k < os.length := by rw [HL.out]; exact hlt
      obtain ⟨v0, v1, v2⟩ := outsV_at os k hkl
      obtain ⟨ad, hA, _, had, hc, hd⟩ := (h1.below hb).atN hlt
      obtain ⟨ad2, hA2, _, had2, hc2, hd2⟩ := (h2.below hb).atN hlt
      have e0 := hc _ v0
      have e1 := hd 0 _ v1
      have e2 := hd 1 _ v2
      have f0 := hc2 _ v0
      have f1 := hd2 0 _ v1
      have f2 := hd2 1 _ v2
      obtain ⟨o, ho⟩ : ∃ o, os[k] = o := ⟨_, rfl⟩
      rw [ho] at e0 e1 e2 f0 f1 f2
      obtain ⟨c, r, m⟩ := o
      dsimp only at e0 e1 e2 f0 f1 f2
      subst hA hA2
      have HB := hide hb
      clear hc hd hc2 hd2 v0 v1 v2 hb ho
      go_wp2_with fail
      go_region_held3 (fun w' => w'.cell? (ad.add (k * 3)) = some (.int .i64 c) ∧ w'.cell? ⟨(ad.add (k * 3)).block, (ad.add (k * 3)).off + 1, none⟩ = some (.bool r) ∧ w'.cell? ⟨(ad.add (k * 3)).block, (ad.add (k * 3)).off + 2, none⟩ = some (.int .i64 m) ∧ w'.cell? (ad2.add (k * 3)) = some (.int .i64 c) ∧ w'.cell? ⟨(ad2.add (k * 3)).block, (ad2.add (k * 3)).off + 1, none⟩ = some (.bool r) ∧ w'.cell? ⟨(ad2.add (k * 3)).block, (ad2.add (k * 3)).off + 2, none⟩ = some (.int .i64 m)) (go_keep) (fail)
      all_goals go_wp2_with fail
      all_goals exact ⟨⟨k + 1, by omega, by go_num, HB.out.drew⟩, by simp [intOf]; omega⟩
    · obtain rfl : k = n := by omega
      go_wp2_with fail
      go_ret
      exact ⟨rfl, hb⟩
end Go.Proofs.Ytjphckfbbiehdaa
