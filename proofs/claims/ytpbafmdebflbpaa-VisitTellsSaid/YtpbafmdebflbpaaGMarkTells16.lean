/- move: mover.all. move: Copy. move: what Copy lays is what the reference lays; the plain part. -/
import Derived.Test.YtpbafmdebflbpaaGMarkTells13
import Derived.Test.YtpbafmdebflbpaaGMarkTells15
set_option linter.unusedSimpArgs false
set_option linter.unusedVariables false
namespace Go.Proofs.Ytpbafmdebflbpaa
open Go.RowKit Go.Maps

def rawAll (ws : List Int) (pre : List (Nat × Nat)) (l : List Int) : List Int := l.flatMap (rawO ws pre 1)
def mvAll (pre : List (Nat × Nat)) (l : List Int) (vs : List Int) : List Int := vs.foldl (mvL pre) l
theorem rawAll_mv (ws : List Int) (pre : List (Nat × Nat)) (l : List Int) (x : Int) : rawAll ws pre l ++ mvE ws pre l x = rawAll ws pre (mvL pre l x) := by
  unfold mvE
  split
  · rename_i h
    rw [mvL_yes h.1 h.2]
    simp [rawAll]
  · rename_i h
    rw [mvL_no (by
      cases hr : unR x with
      | false => exact .inl rfl
      | true => exact .inr (Classical.byContradiction fun h2 => h ⟨hr, h2⟩)), List.append_nil]
theorem mvAll_seen (pre : List (Nat × Nat)) (l vs : List Int) : mvAll pre l vs = seenAll l (vs.map (turnW (ixOf pre))) := by
  unfold mvAll seenAll
  rw [List.foldl_map]
  rfl
theorem mvAll_pre (pre : List (Nat × Nat)) (l vs : List Int) : l <+: mvAll pre l vs := by rw [mvAll_seen]; exact seenAll_pre _ _
theorem mvAll_app (pre : List (Nat × Nat)) (l vs us : List Int) : mvAll pre l (vs ++ us) = mvAll pre (mvAll pre l vs) us := by unfold mvAll; rw [List.foldl_append]
theorem mvAll_take (pre : List (Nat × Nat)) (l vs : List Int) (k : Nat) : mvAll pre l (vs.take k) <+: mvAll pre l vs := by
  conv => rhs; rw [← List.take_append_drop k vs, mvAll_app]
  exact mvAll_pre _ _ _

set_option maxRecDepth 100000 in
set_option maxHeartbeats 4000000 in
theorem mvall_any (w : World) (Dw : Nat → Prop) (m b : Nat) (D : DataW Unit) (Aw At Av : Option Addr) (nw cw nt ct nv cv : Nat) (ws vs l : List Int) (hs : (allI (MvI m b l.length D At nt ct (rawAll ws (parse nw ws 0).1 l) Aw nw cw)).P w) (hD : ∀ g, (allI (MvI m b l.length D At nt ct (rawAll ws (parse nw ws 0).1 l) Aw nw cw)).fp g → ¬ Dw g) (hDl : ∀ g, Dw g → g < w.heap.size)
    (hW : WsD w Dw Aw nw cw ws) (hn : nw ≤ 256) (hV : Rd w Dw 1 Av nv (u64s vs)) (hnv : nv ≤ 1000) (hO : OrdOk (parse nw ws 0).1.length l) (hN : NowOk (parse nw ws 0).1 l D) (hnt : nt = sumO (parse nw ws 0).1 l) (hx : ∀ x ∈ vs, GoodW (parse nw ws 0).1 x) :
    Calls Try.prog 64 #[.pointer (some ⟨m, 0, none⟩), .slice Av nv cv] w fun e w' => ∃ A' c' D' At' nt' ct', e = .returned (.slice A' nv c') ∧
      NowOk (parse nw ws 0).1 (mvAll (parse nw ws 0).1 l vs) D' ∧ OrdOk (parse nw ws 0).1.length (mvAll (parse nw ws 0).1 l vs) ∧ nt' = sumO (parse nw ws 0).1 (mvAll (parse nw ws 0).1 l vs) ∧
      Sep (allI (MvI m b l.length D At nt ct (rawAll ws (parse nw ws 0).1 l) Aw nw cw)).fp w w' [rowI 24 1 A' nv c' (u64s (vs.map (transW (parse nw ws 0).1 (mvAll (parse nw ws 0).1 l vs)))), allI (MvI m b (mvAll (parse nw ws 0).1 l vs).length D' At' nt' ct' (rawAll ws (parse nw ws 0).1 (mvAll (parse nw ws 0).1 l vs)) Aw nw cw)] := by
  obtain ⟨F, hF⟩ : ∃ F, (allI (MvI m b l.length D At nt ct (rawAll ws (parse nw ws 0).1 l) Aw nw cw)).fp = F := ⟨_, rfl⟩
  have HS0 := hide ((Sep.start hs).nilRow0 24 1)
  rw [hF] at HS0 hD ⊢
  have HVL := hide (show vs.length = nv by have := hV.1; simpa [u64s] using this)
  have MV := hide (fun w' D At nt ct xs l x => mv_any w' Dw m b D Aw At nw cw nt ct ws xs l x)
  obtain ⟨pre, hpre⟩ : ∃ pre, (parse nw ws 0).1 = pre := ⟨_, rfl⟩
  rw [hpre] at HS0 MV hO hN hnt hx ⊢
  have HX := hide hx
  have HO := hide hO
  have HN := hide hN
  have HNT := hide hnt
  have HDD := hide hD
  have HDL := hide hDl
  clear hF hs hpre hO hN hx hnt hD hDl
  go_enter Try.func64, Try.ntmps64
  go_wp2_with fail
  go_loopw [5, 10] (fun s5 i wr => ∃ (k : Nat) (A : Option Addr) (c : Nat) (D' : DataW Unit) (At' : Option Addr) (nt' ct' : Nat), k ≤ nv ∧ i = .int .i64 k ∧ s5 = .slice A k c ∧ Hid (NowOk pre (mvAll pre l (vs.take k)) D') ∧ Hid (OrdOk pre.length (mvAll pre l (vs.take k))) ∧ Hid (nt' = sumO pre (mvAll pre l (vs.take k))) ∧
    Sep F w wr [rowI 24 1 A k c (u64s ((vs.take k).map (transW pre (mvAll pre l vs)))), allI (MvI m b (mvAll pre l (vs.take k)).length D' At' nt' ct' (rawAll ws pre (mvAll pre l (vs.take k))) Aw nw cw)]) (fun _ i _ => nv - (intOf i).toNat)
  case atStart => exact ⟨0, none, 0, D, At, nt, ct, by omega, rfl, rfl, HN, HO, HNT, HS0.out⟩
  case round =>
    clear HS0 HN HO HNT
    obtain ⟨k, A, c, D', At', nt', ct', hk, rfl, rfl, HN, HO, HNT, hS⟩ := hrel
    by_cases hlt : k < nv
    · have hkl : k < vs.length := by rw [HVL.out]; exact hlt
      obtain ⟨ad, hA, _, had, hc⟩ := (hV.chg hS.bel HDD.out).at_ hlt
      have e0 := hc (.int .u64 vs[k]) (by simp [u64s, List.getElem?_eq_getElem hkl])
      have HT := hide (List.take_succ_eq_append_getElem hkl)
      have hgx := HX.out _ (List.getElem_mem hkl)
      have HTK := hide (mvAll_take pre l vs (k + 1))
      obtain ⟨x, hx⟩ : ∃ x, vs[k] = x := ⟨_, rfl⟩
      rw [hx] at e0 HT hgx
      subst hA
      have HST := hide (show mvAll pre l (vs.take (k + 1)) = mvL pre (mvAll pre l (vs.take k)) x from by rw [HT.out, mvAll_app]; rfl)
      rw [HST.out] at HTK
      have HRA := hide (rawAll_mv ws pre (mvAll pre l (vs.take k)) x)
      have HTR := hide (transW_pre HTK.out (fun hr => mvL_mem hr) (x := x))
      have C := hide (MV.out wr D' At' nt' ct' _ (mvAll pre l (vs.take k)) x (hS.get 1 rfl) (fun g hg hd => by
        rcases hS.lo 1 rfl g hg with h | h
        · exact HDD.out g h hd
        · have := HDL.out g hd; omega) (hW.chg hS.bel HDD.out) hn HO.out HN.out HNT.out hgx)
      have HO2 := hide (mvL_ok hgx HO.out)
      have HS := hide hS
      obtain ⟨l1, hl1⟩ : ∃ l1, mvAll pre l (vs.take k) = l1 := ⟨_, rfl⟩
      rw [hl1] at HST HRA HTR C HO2 HS
      obtain ⟨y, hy⟩ : ∃ y, transW pre (mvL pre l1 x) x = y := ⟨_, rfl⟩
      rw [hy] at C HTR
      clear hc hx hgx hS hl1 hy
      go_wp2_with fail
      refine C.out.mono ?_
      rintro e w3 ⟨D3, At3, nt3, ct3, rfl, hN3, hnt3, hS3⟩
      have hS4 := HS.out.call 1 rfl hS3
      have HN3 := hide hN3
      have HNT3 := hide hnt3
      clear hN3 hnt3 hS3 HS C e0 had
      go_wp2_with (first
        | (at_builtin
           refine wpList_app1 (cs := #[.int .u64 y]) rfl (.tmp 14) (.tmp 18) 53 rfl sWord hS4 0 (n := k) rfl rfl rfl (by simp) rfl rfl (by omega) ?_
           intro A4 c4 w4 hS4 hC4))
      go_roundw
      case rel =>
        refine ⟨k + 1, A4, c4, D3, At3, nt3, ct3, by omega, by go_num, rfl, by rw [HST.out]; exact HN3, by rw [HST.out]; exact HO2, by rw [HST.out]; exact HNT3, ?_⟩
        rw [HST.out, ← HRA.out, HT.out, List.map_append, List.map_cons, List.map_nil, HTR.out, u64s_snoc]
        exact hS4
      case measure => simp [intOf]; omega
    · obtain rfl : k = nv := by omega
      rw [show vs.take k = vs from List.take_of_length_le (by rw [HVL.out]; omega)] at hS HN HO HNT
      go_wp2_with fail
      go_ret
      first
        | exact ⟨A, c, D', At', nt', ct', rfl, HN.out, HO.out, HNT.out, hS⟩
        | exact ⟨A, c, rfl, D', HN.out, HO.out, At', nt', ct', HNT.out, hS⟩
end Go.Proofs.Ytpbafmdebflbpaa

namespace Go.Proofs.Ytpbafmdebflbpaa
open Go.RowKit Go.Maps

def doneO (ws : List Int) (pre : List (Nat × Nat)) (L : List Int) (i : Int) : List Int := (headW (older 1 (headOf (ws.getD (plc pre i) 0))).1 false (older 1 (headOf (ws.getD (plc pre i) 0))).2.2) :: ((ws.drop (plc pre i + 1)).take (lenO pre i)).map (transW pre L)
def mvWords (ws : List Int) (pre : List (Nat × Nat)) (L : List Int) (k : Nat) (l : List Int) : List Int := (l.take k).flatMap (doneO ws pre L) ++ rawAll ws pre (l.drop k)
theorem head_parts (len : Nat) (a : Int) (h : len ≤ 4) (h0 : 0 ≤ a) (h7 : a ≤ 7) : hLen (headW len false a) = (len : Int) ∧ unheadOK (headW len false a) ∧ 0 ≤ headW len false a ∧ headW len false a ≤ 18446744073709551615 := by
  unfold unheadOK hLen headW
  simp only [Bool.false_eq_true, if_false]
  omega
theorem done_len {ws : List Int} {pre : List (Nat × Nat)} {L : List Int} {l : List Int} (h : ∀ i ∈ l, (rawO ws pre 1 i).length = 1 + lenO pre i) : (l.flatMap (doneO ws pre L)).length = sumO pre l := by
  induction l with
  | nil => rfl
  | cons a l ih =>
    have h1 := h a (by simp)
    have h2 := ih (fun i hi => h i (by simp [hi]))
    unfold rawO at h1
    unfold sumO at *
    simp only [List.flatMap_cons, List.length_append, List.map_cons, List.sum_cons]
    rw [h2]
    unfold doneO
    simp only [List.length_cons, List.length_map] at h1 ⊢
    omega
theorem drop_cons {l : List Int} {k : Nat} (h : k < l.length) : l.drop k = l[k] :: l.drop (k + 1) := List.drop_eq_getElem_cons h
theorem sumO_take (pre : List (Nat × Nat)) {l : List Int} {k : Nat} (h : k < l.length) : sumO pre (l.take (k + 1)) = sumO pre (l.take k) + (1 + lenO pre l[k]) := by
  rw [List.take_succ_eq_append_getElem h, sumO_snoc]
theorem sumO_take_le (pre : List (Nat × Nat)) (l : List Int) (k : Nat) : sumO pre (l.take k) ≤ sumO pre l := by
  have e : sumO pre l = sumO pre (l.take k) + sumO pre (l.drop k) := by unfold sumO; rw [← List.sum_append, ← List.map_append, List.take_append_drop]
  omega
theorem set_mid {α : Type} (U V : List α) (x y : α) : (U ++ x :: V).set U.length y = U ++ y :: V := by simp
theorem get_mid {α : Type} (U V : List α) (x : α) : (U ++ x :: V)[U.length]? = some x := by simp

theorem mover_perm {α : Type} (r j a b m : α) : [r, j, a, b, m].Perm [r, j, m, a, b] := by
  classical
  rw [List.perm_iff_count]
  intro x
  simp only [List.count_cons, List.count_nil]
  omega
theorem perm_h {α : Type} (a b c d e : α) : [a, b, c, d, e].Perm [a, e, b, c, d] := by
  classical
  rw [List.perm_iff_count]
  intro x
  simp only [List.count_cons, List.count_nil]
  omega

/-- What lies there between two objects. -/
structure CpSt (ws : List Int) (pre : List (Nat × Nat)) (gs : List (List Val)) (L : List Int) (k : Nat) (l : List Int) (D : DataW Unit) (nt : Nat) : Prop where
  now : NowOk pre l D
  ok : OrdOk pre.length l
  nt : nt = sumO pre l
  cont : L = bfs gs (pre.length - k) k l

/-- What lies there in the midst of an object. -/
structure InSt (ws : List Int) (pre : List (Nat × Nat)) (gs : List (List Val)) (L : List Int) (k : Nat) (l : List Int) (rest : List Int) (l' : List Int) (D : DataW Unit) (nt : Nat) : Prop where
  now : NowOk pre l' D
  ok : OrdOk pre.length l'
  nt : nt = sumO pre l'
  cont : L = bfs gs (pre.length - (k + 1)) (k + 1) (mvAll pre l' rest)
  pre_ : l <+: l'
theorem raw_mv {ws : List Int} {pre : List (Nat × Nat)} {l : List Int} {k : Nat} {x : Int} (h : k ≤ l.length) : rawAll ws pre (l.drop k) ++ mvE ws pre l x = rawAll ws pre ((mvL pre l x).drop k) := by
  unfold mvE
  split
  · rename_i h1
    rw [mvL_yes h1.1 h1.2, List.drop_append_of_le_length h]
    simp [rawAll]
  · rename_i h1
    rw [mvL_no (by
      cases hr : unR x with
      | false => exact .inl rfl
      | true => exact .inr (Classical.byContradiction fun h2 => h1 ⟨hr, h2⟩)), List.append_nil]

set_option maxRecDepth 100000 in
set_option maxHeartbeats 16000000 in
theorem copy_ok (w : World) (AW AR : Option Addr) (nW cW nR cR : Nat) (ws rs : List Int) (hW : WsIn w AW nW cW ws) (hR : WsIn w AR nR cR rs) (hz : acheck nW nR ws rs = 0) :
    Calls Try.prog 31 #[.agg #[.slice AW nW cW, .slice AR nR cR]] w fun e w' => ∃ v, e = .returned (.tuple #[v, .int .i64 0]) ∧ Below w.heap.size w w' ∧
      ArenaRd w w' v ((order (graphOf ws (parse nW ws 0).1) (rs.map (turnW (ixOf (parse nW ws 0).1)))).flatMap (doneO ws (parse nW ws 0).1 (order (graphOf ws (parse nW ws 0).1) (rs.map (turnW (ixOf (parse nW ws 0).1))))))
        (rs.map (transW (parse nW ws 0).1 (order (graphOf ws (parse nW ws 0).1) (rs.map (turnW (ixOf (parse nW ws 0).1)))))) := by
  obtain ⟨h1, h2, h3, h4⟩ := acheck_zero hz
  have hwl := hW.len
  have hrl := hR.len
  have hw0 : ∀ x ∈ ws, 0 ≤ x := fun x hx => (hW.wf x hx).1
  have HG := hide (good_of_check h4)
  have HGW := hide (show ∀ x ∈ rs ++ fieldsOf ws (parse nW ws 0).1, GoodW (parse nW ws 0).1 x from fun x hx => by
    have hb : 0 ≤ x ∧ x ≤ 18446744073709551615 := by
      rcases List.mem_append.1 hx with h | h
      · exact hR.wf x h
      · obtain ⟨p, _, hp⟩ := List.mem_flatMap.1 h
        exact hW.wf x (List.mem_of_mem_drop (List.mem_of_mem_take hp))
    exact ⟨hb.1, hb.2, HG.out.e x hx, HG.out.ix x hx⟩)
  have HRL := hide (fun i h0 h1 => rawO_len (nW := nW) (ws := ws) (o := 1) (i := i) hw0 h0 h1)
  have HSL := hide (fun l h => sumO_le (nW := nW) (ws := ws) (l := l) hw0 h)
  have hS0 := ((Sep.nil No w).blkAt 55 #[.slice AW nW cW, .slice AR nR cR] rfl).blkAt 55 #[.slice none 0 0, .slice none 0 0] (g := w.heap.size + 1) (by simp)
  obtain ⟨a1, a2, a3, a4⟩ := hS0.rules 0 (g := w.heap.size) (t := 55) rfl
  have HS0 := hide hS0
  have C1 := hide (arenaCheck_any _ AW AR nW cW nR cR ws rs (hW.below hS0.below_) (hR.below hS0.below_))
  rw [hz] at C1
  have hWD := hW.d
  have hRD : Rd w (fun g => g < w.heap.size) 1 AR nR (u64s rs) := hR.rd.more (fun _ h _ => h)
  have MA := hide (fun w' m b D At nt ct hs hD hDl hV hO hN hnt hx hW' => mvall_any w' (fun g => g < w.heap.size) m b D AW At AR nW cW nt ct nR cR ws rs [] hs hD hDl hW' h1 hV (by omega) hO hN hnt hx)
  have MV := hide (fun w' m b D At nt ct xs l x hs hD hW' hO hN hnt hx => mv_any w' (fun g => g < w.heap.size) m b D AW At nW cW nt ct ws xs l x hs hD hW' h1 hO hN hnt hx)
  obtain ⟨pre, hpre⟩ : ∃ pre, (parse nW ws 0).1 = pre := ⟨_, rfl⟩
  rw [hpre] at HG HGW HRL HSL MA MV ⊢
  obtain ⟨gs, hgs⟩ : ∃ gs, graphOf ws pre = gs := ⟨_, rfl⟩
  obtain ⟨vs, hvs⟩ : ∃ vs, rs.map (turnW (ixOf pre)) = vs := ⟨_, rfl⟩
  obtain ⟨L, hL⟩ : ∃ L, order gs vs = L := ⟨_, rfl⟩
  rw [hgs, hvs, hL]
  have HGS := hide hgs
  have hgl : gs.length = pre.length := by rw [← hgs]; unfold graphOf; rw [List.length_map]
  have hord : L = bfs gs (pre.length - 0) 0 (mvAll pre [] rs) := by rw [mvAll_seen, hvs, ← hL]; unfold order; rw [hgl]; rfl
  have HORD := hide hord
  have HWL := hide hwl
  have HWD := hide hWD
  have HRD := hide hRD
  have hmm := @run_makeMap Try.prog
  clear hS0 h3 h4 hz hpre hwl hw0 hgs hvs hL hgl hord hWD hRD HG hrl
  go_enter Try.func31, Try.ntmps31
  go_wp2_with fail
  refine C1.out.mono ?_
  rintro e w1 ⟨rfl, hb1⟩
  have hS1 := HS0.out.below hb1
  clear a1 a2 a3 a4
  obtain ⟨a1, a2, a3, a4⟩ := hS1.rules 0 (g := w.heap.size) (t := 55) rfl
  have hown := World.ownsMap_made (H := Unit) w1 Try.prog 3 (plainElem Try.prog 3)
  have hS2 := hS1.consNew ((Below.refl _ _).alloc (Nat.le_refl _) (.map #[] 0)) (mapJ w1.heap.size 0 (.map [])) hown (fun g hg => by rw [show g = _ from hg]; exact Nat.le_refl _)
  have hS3 := ((hS2.blkAt 119 #[.slice AW nW cW, .slice none 0 0, .map (some w1.heap.size)] (g := w1.heap.size + 1) (by simp)).nilRow0 24 1).perm (mover_perm _ _ _ _ _)
  have hS4 : Sep No w _ [allI (MvI (w1.heap.size + 1) w1.heap.size ([] : List Int).length (.map []) none 0 0 (rawAll ws pre []) AW nW cW), blkI w.heap.size 55 #[.slice AW nW cW, .slice AR nR cR], blkI (w.heap.size + 1) 55 #[.slice none 0 0, .slice none 0 0]] := Sep.join (l := [_, _, _]) hS3
  have C2 := hide (MA.out _ (w1.heap.size + 1) w1.heap.size (.map []) none 0 0 (hS4.get 0 rfl) (fun g hg hd => by
      rcases hS4.lo 0 rfl g hg with h | h
      · exact h
      · omega) (fun g hg => by have := hS4.bel.size; omega) (HRD.out.below hS4.below_) (OrdOk.nil _) (nowOk_nil _) rfl (fun x hx => HGW.out x (List.mem_append_left _ hx)) (HWD.out.below hS4.below_))
  have HS4 := hide hS4
  clear C1 HS0 hb1 hS1 hown hS2 hS3 hS4 MA
  go_wp2_with fail
  refine C2.out.mono ?_
  rintro e w3 ⟨Ar, cr, D1, At, nt, ct, rfl, hN1, hO1, hnt1, hS5⟩
  have hS6 := (HS4.out.call 0 rfl hS5.fold).split
  have hS7 : Sep No w w3 [allI (MvI (w1.heap.size + 1) w1.heap.size (mvAll pre [] rs).length D1 At nt ct (rawAll ws pre (mvAll pre [] rs)) AW nW cW), rowI 24 1 Ar nR cr (u64s (rs.map (transW pre (mvAll pre [] rs)))), blkI w.heap.size 55 #[.slice AW nW cW, .slice AR nR cR], blkI (w.heap.size + 1) 55 #[.slice none 0 0, .slice none 0 0]] := hS6.perm (.swap _ _ _)
  have hpr : mvAll pre [] rs <+: L := by rw [HORD.out]; exact bfs_pre _ _ _ _
  have hrt : rs.map (transW pre (mvAll pre [] rs)) = rs.map (transW pre L) := by
    refine List.map_congr_left fun x hx => (transW_pre hpr (fun hr => ?_)).symm
    obtain ⟨i, hi, hxi⟩ := List.mem_iff_getElem.1 hx
    have h5 := mvL_mem (pre := pre) (l := mvAll pre [] (rs.take i)) (x := x) hr
    have h6 : mvL pre (mvAll pre [] (rs.take i)) x <+: mvAll pre [] rs := by
      have h7 := mvAll_take pre [] rs (i + 1)
      rw [List.take_succ_eq_append_getElem hi, hxi, mvAll_app] at h7
      exact h7
    exact h6.subset h5
  rw [hrt] at hS7
  have HS7 := hide hS7
  have HST := hide (show CpSt ws pre gs L 0 (mvAll pre [] rs) D1 nt from ⟨hN1, hO1, hnt1, HORD.out⟩)
  clear a1 a2 a3 a4 HS4 hS5 hS6 hS7 hN1 hO1 hnt1 hpr hrt C2 hmm
  go_wp2_with fail
  go_loopw [7] (fun s7 wr => ∃ (k nt ct : Nat) (l : List Int) (D : DataW Unit) (At : Option Addr), k ≤ l.length ∧ s7 = .int .i64 (sumO pre (l.take k)) ∧ Hid (CpSt ws pre gs L k l D nt) ∧
    Sep No w wr [allI (MvI (w1.heap.size + 1) w1.heap.size l.length D At nt ct (mvWords ws pre L k l) AW nW cW), rowI 24 1 Ar nR cr (u64s (rs.map (transW pre L))), blkI w.heap.size 55 #[.slice AW nW cW, .slice AR nR cR], blkI (w.heap.size + 1) 55 #[.slice none 0 0, .slice none 0 0]]) (fun s _ => 256 - (intOf s).toNat)
  case atStart => exact ⟨0, nt, ct, _, D1, At, Nat.zero_le _, rfl, HST, by simpa [mvWords] using HS7.out⟩
  case round =>
    clear HS7 HST
    obtain ⟨k, nt, ct, l, D, At, hk, rfl, HST, hS⟩ := hrel
    have hntl := HSL.out l HST.out.ok
    have hnt := HST.out.nt
    rw [HWL.out] at hntl
    have hsk := sumO_take_le pre l k
    have hS' := Sep.split (l := [_, _, _]) hS
    by_cases hlt : k < l.length
    · have hsum := sumO_take pre hlt
      have hsk1 := sumO_take_le pre l (k + 1)
      obtain ⟨r1, r2⟩ := HST.out.ok.rng _ (List.getElem_mem hlt)
      have hbs := bfs_step gs pre.length k l hlt HST.out.ok.len
      have hgd : l.getD k 0 = l[k] := by rw [List.getD_eq_getElem?_getD, List.getElem?_eq_getElem hlt]; rfl
      obtain ⟨i, hi⟩ : ∃ i, l[k] = i := ⟨_, rfl⟩
      rw [hgd, hi] at hbs
      rw [hi] at hsum r1 r2
      obtain ⟨g1, g2, g3, g4, g5⟩ := HRL.out i r1 r2
      have hil : i.toNat < pre.length := by omega
      have hpi : pre.getD i.toNat (0, 0) = pre[i.toNat] := by rw [List.getD_eq_getElem?_getD, List.getElem?_eq_getElem hil]; rfl
      obtain ⟨fs, hfs⟩ : ∃ fs, (ws.drop (plc pre i + 1)).take (lenO pre i) = fs := ⟨_, rfl⟩
      have hfi : fieldsI gs i = fs.map (turnW (ixOf pre)) := by
        rw [← HGS.out, ← hfs]
        unfold fieldsI graphOf plc lenO fieldsAt
        rw [List.getD_eq_getElem?_getD, List.getElem?_map, List.getElem?_eq_getElem hil, hpi]
        rfl
      have hfg : ∀ x ∈ fs, GoodW pre x := fun x hx => HGW.out x (List.mem_append_right _ (List.mem_flatMap.2 ⟨pre[i.toNat], List.getElem_mem hil, by
        rw [← hpi]; rw [← hfs] at hx; exact hx⟩))
      obtain ⟨ag, hag⟩ : ∃ ag, (older 1 (headOf (ws.getD (plc pre i) 0))).2.2 = ag := ⟨_, rfl⟩
      have hl0 : (older 1 (headOf (ws.getD (plc pre i) 0))).1 = (lenO pre i : Int) := g4
      have hagb : 0 ≤ ag ∧ ag ≤ 7 := by
        rw [← hag]
        unfold older headOf hAge
        dsimp only
        split <;> omega
      have hraw : rawO ws pre 1 i = headW (lenO pre i) false ag :: fs := by unfold rawO; rw [hl0, hag, hfs]
      have hdone : doneO ws pre L i = headW (lenO pre i) false ag :: fs.map (transW pre L) := by unfold doneO; rw [hl0, hag, hfs]
      have hfl : fs.length = lenO pre i := by rw [hraw] at g1; simp at g1; omega
      have hl4 : lenO pre i ≤ 4 := by have := g3.1; omega
      obtain ⟨p1, p2, p3, p4⟩ := head_parts (lenO pre i) ag hl4 hagb.1 hagb.2
      have hU0 : ((l.take k).flatMap (doneO ws pre L)).length = sumO pre (l.take k) := done_len (fun j hj => by
        obtain ⟨q1, q2⟩ := HST.out.ok.rng j (List.mem_of_mem_take hj)
        exact (HRL.out j q1 q2).1)
      have hwords : mvWords ws pre L k l = (l.take k).flatMap (doneO ws pre L) ++ headW (lenO pre i) false ag :: (fs ++ rawAll ws pre (l.drop (k + 1))) := by
        unfold mvWords
        rw [drop_cons hlt, hi]
        show _ ++ (rawO ws pre 1 i ++ rawAll ws pre (l.drop (k + 1))) = _
        rw [hraw]; rfl
      have hin : InSt ws pre gs L k l fs l D nt := ⟨HST.out.now, HST.out.ok, HST.out.nt, by rw [HST.out.cont, hbs, hfi, mvAll_seen], List.prefix_refl _⟩
      have hlk : k + 1 ≤ l.length := hlt
      have htk : l.take (k + 1) = l.take k ++ [i] := by rw [List.take_succ_eq_append_getElem hlt, hi]
      rw [hwords] at hS hS'
      obtain ⟨U0, hUU⟩ : ∃ U0, (l.take k).flatMap (doneO ws pre L) = U0 := ⟨_, rfl⟩
      obtain ⟨at_, hat⟩ : ∃ a, sumO pre (l.take k) = a := ⟨_, rfl⟩
      obtain ⟨len, hlen⟩ : ∃ a, lenO pre i = a := ⟨_, rfl⟩
      rw [hUU, hlen] at hS hS'
      rw [hUU, hat] at hU0
      rw [hlen] at hdone hfl hl4 p1 p2 p3 p4 hsum
      rw [hat] at hsum hsk ⊢
      obtain ⟨hw, hhw⟩ : ∃ a, headW (len : Int) false ag = a := ⟨_, rfl⟩
      rw [hhw] at hS hS' hdone p1 p2 p3 p4
      have hatn : at_ < nt := by omega
      obtain ⟨ad, hA, _, had, hc⟩ := (hS'.rd_ 0 rfl).at_ hatn
      have e0 := hc (.int .u64 hw) (by
        have h5 := get_mid U0 (fs ++ rawAll ws pre (l.drop (k + 1))) hw
        rw [hU0] at h5
        simp only [u64s, List.getElem?_map, h5, Option.map_some])
      have C := fun w' => unheadP_ok w' hw p3 p4 p2
      rw [p1] at C
      have HC := hide C
      obtain ⟨b1, b2, b3, b4⟩ := hS'.rules 2 (g := w1.heap.size + 1) (t := 119) rfl
      have b5 : wr.cell? ⟨w1.heap.size + 1, 1, none⟩ = some (.slice At nt ct) := by rw [b1]; rfl
      have HIN := hide hin
      have HDN := hide hdone
      have HFL := hide hfl
      have HFG := hide hfg
      have HU0 := hide hU0
      have HUU := hide hUU
      have HTK := hide htk
      have HS := hide hS
      have HSUM := hide hsum
      have HAT := hide hat
      subst hA
      clear hsum hbs hgd hi r1 r2 g1 g2 g3 g4 g5 hil hpi hfs hfi hfg hag hl0 hagb hraw hdone hfl p1 p2 p3 p4 hU0 hwords hin htk hUU hat hlen hhw hc C b1 b4 hS hS' HST hnt
      go_wp2_with fail
      refine (HC.out _).mono ?_
      rintro e w4 ⟨rfl, hb4⟩
      have hS4 := (HS.out.below hb4).blkAt 23 #[.int .i64 len, .bool (hMark hw), .int .i64 (hAge hw)] rfl
      have HS4 := hide hS4
      clear hb4 hS4 HS e0 had b2 b3 b5
      go_wp2_with fail
      go_loopw [10] (fun s10 w5 => ∃ (j nt ct : Nat) (l' : List Int) (D : DataW Unit) (At : Option Addr), j ≤ len ∧ s10 = .int .i64 ((at_ : Int) + 1 + j) ∧ Hid (InSt ws pre gs L k l (fs.drop j) l' D nt) ∧
        Sep No w w5 [allI (MvI (w1.heap.size + 1) w1.heap.size l'.length D At nt ct (U0 ++ hw :: (fs.take j).map (transW pre L) ++ (fs.drop j ++ rawAll ws pre (l'.drop (k + 1)))) AW nW cW), rowI 24 1 Ar nR cr (u64s (rs.map (transW pre L))), blkI w.heap.size 55 #[.slice AW nW cW, .slice AR nR cR], blkI (w.heap.size + 1) 55 #[.slice none 0 0, .slice none 0 0], blkI w4.heap.size 23 #[.int .i64 len, .bool (hMark hw), .int .i64 (hAge hw)]]) (fun s _ => 512 - (intOf s).toNat)
      case atStart => exact ⟨0, nt, ct, l, D, _, Nat.zero_le _, by first | rfl | simp | go_num, HIN, by simpa using HS4.out⟩
      case round =>
        clear HS4 HIN
        obtain ⟨j, nt, ct, l', D, At, hj, rfl, HIN, hS⟩ := hrel
        have hS' := Sep.split (l := [_, _, _]) hS
        obtain ⟨d1, d2, d3, d4⟩ := hS'.rules 6 (g := w4.heap.size) (t := 23) rfl
        have d5 : wr.cell? ⟨w4.heap.size, 0, none⟩ = some (.int .i64 len) := by rw [d1]; rfl
        by_cases hlj : j < len
        · have hjl : j < fs.length := by rw [HFL.out]; exact hlj
          have hcons : fs.drop j = fs[j] :: fs.drop (j + 1) := List.drop_eq_getElem_cons hjl
          have hgx := HFG.out _ (List.getElem_mem hjl)
          have htk := List.take_succ_eq_append_getElem hjl
          obtain ⟨x, hx⟩ : ∃ x, fs[j] = x := ⟨_, rfl⟩
          rw [hx] at hcons hgx htk
          have hcont := HIN.out.cont
          rw [hcons] at hcont
          have hpL : mvL pre l' x <+: L := by
            rw [hcont]
            exact (mvAll_pre pre (mvL pre l' x) (fs.drop (j + 1))).trans (bfs_pre _ _ _ _)
          have htr := transW_pre hpL (fun hr => mvL_mem hr) (x := x)
          have hk1 : k + 1 ≤ l'.length := Nat.le_trans hlk HIN.out.pre_.length_le
          have hraw := raw_mv (ws := ws) (x := x) (pre := pre) hk1
          have hUl : (U0 ++ hw :: (fs.take j).map (transW pre L)).length = at_ + 1 + j := by
            rw [List.length_append, List.length_cons, List.length_map, List.length_take, HU0.out]; omega
          rw [hcons] at hS hS'
          obtain ⟨U, hU⟩ : ∃ U, U0 ++ hw :: (fs.take j).map (transW pre L) = U := ⟨_, rfl⟩
          have hU1 : U0 ++ hw :: (fs.take (j + 1)).map (transW pre L) = U ++ [transW pre L x] := by rw [← hU, htk]; simp
          rw [hU] at hS hS' hUl
          have hnl := (hS'.rd_ 0 rfl).1
          simp only [u64s, List.length_map, List.length_append, List.length_cons, hUl, Nat.mul_one] at hnl
          have hxn : at_ + 1 + j < nt := by omega
          obtain ⟨ad, hA, _, had, hc⟩ := (hS'.rd_ 0 rfl).at_ hxn
          have e0 := hc (.int .u64 x) (by
            have h5 := get_mid U (fs.drop (j + 1) ++ rawAll ws pre (l'.drop (k + 1))) x
            rw [hUl] at h5
            simp only [u64s, List.getElem?_map, List.cons_append, h5, Option.map_some])
          have hntl := HSL.out _ (mvL_ok hgx HIN.out.ok)
          rw [HWL.out] at hntl
          have C := MV.out wr (w1.heap.size + 1) w1.heap.size D At nt ct _ l' x (hS.get 0 rfl) (fun g hg hd => by
            rcases hS.lo 0 rfl g hg with h | h
            · exact h
            · omega) (HWD.out.below hS.below_) HIN.out.ok HIN.out.now HIN.out.nt hgx
          obtain ⟨y, hy⟩ : ∃ y, transW pre L x = y := ⟨_, rfl⟩
          rw [← htr, hy] at C
          rw [hy] at hU1
          have HC2 := hide C
          have HOK2 := hide (mvL_ok hgx HIN.out.ok)
          have HCONT := hide hcont
          have HPRE := hide (HIN.out.pre_.trans (seen1_pre l' (turnW (ixOf pre) x)))
          have HRAW := hide hraw
          have HUL := hide hUl
          have HU1 := hide hU1
          obtain ⟨b1, b2, b3, b4⟩ := hS'.rules 2 (g := w1.heap.size + 1) (t := 119) rfl
          have b5 : wr.cell? ⟨w1.heap.size + 1, 1, none⟩ = some (.slice At nt ct) := by rw [b1]; rfl
          have HS := hide hS
          subst hA
          clear hcons hgx htk hx hcont hpL htr hraw hUl hU hU1 hnl hc C hy hk1 b1 b4 d1 d4 hS hS' HIN
          go_wp2_with fail
          refine HC2.out.mono ?_
          rintro e w6 ⟨D6, At6, nt6, ct6, rfl, hN6, hnt6, hS6⟩
          have hS7 := HS.out.call 0 rfl hS6
          have HN6 := hide hN6
          have HNT6 := hide hnt6
          clear hN6 hS6 HS HC2 e0 had b2 b3 b5 d2 d3 d5
          have hS8 := Sep.split (l := [_, _, _]) hS7
          have hrow : w6.ownsRow 0 24 1 (.slice At6 nt6 ct6) nt6 (u64s (U ++ ((x :: fs.drop (j + 1)) ++ rawAll ws pre (l'.drop (k + 1))) ++ mvE ws pre l' x)) := hS8.get 0 rfl
          have hnl6 := hrow.1
          simp only [u64s, List.length_map, List.length_append, List.length_cons, HUL.out, Nat.mul_one] at hnl6
          obtain ⟨g, cap, hA6, _, hg6⟩ := hrow.form (by omega)
          injection hA6 with hA6 _ hcap
          subst hA6
          have f1 := hrow.cellAt (at_ + 1 + j) (by omega)
          have f2 := hrow.frozenAt (at_ + 1 + j)
          rw [List.append_assoc, List.cons_append, show (u64s (U ++ (x :: (fs.drop (j + 1) ++ rawAll ws pre (l'.drop (k + 1))) ++ mvE ws pre l' x)))[at_ + 1 + j]? = some (.int .u64 x) from by
            have h5 := get_mid U ((fs.drop (j + 1) ++ rawAll ws pre (l'.drop (k + 1))) ++ mvE ws pre l' x) x
            rw [HUL.out] at h5
            simp only [u64s, List.getElem?_map, List.cons_append, h5, Option.map_some]] at f1
          obtain ⟨b1, b2, b3, b4⟩ := hS8.rules 2 (g := w1.heap.size + 1) (t := 119) rfl
          have b5 : w6.cell? ⟨w1.heap.size + 1, 1, none⟩ = some (.slice (some ⟨g, 0, none⟩) nt6 ct6) := by rw [b1]; rfl
          have hxn6 : at_ + 1 + j < nt6 := by omega
          have HS8 := hide hS8
          clear b1 b4 hS7 hS8 hrow hnl6 hnt6
          go_wp2_with fail
          go_roundw
          case rel =>
            refine ⟨j + 1, nt6, ct6, mvL pre l' x, D6, some ⟨g, 0, none⟩, by omega, by go_num, ⟨HN6.out, HOK2.out, HNT6.out, HCONT.out, HPRE.out⟩, ?_⟩
            have h9 := HS8.out.store 0 rfl (at_ + 1 + j) (.int .u64 y)
            have hE : (u64s (U ++ ((x :: fs.drop (j + 1)) ++ rawAll ws pre (l'.drop (k + 1))) ++ mvE ws pre l' x)).set (at_ + 1 + j) (.int .u64 y) = u64s (U0 ++ hw :: (fs.take (j + 1)).map (transW pre L) ++ (fs.drop (j + 1) ++ rawAll ws pre ((mvL pre l' x).drop (k + 1)))) := by
              have h5 := set_mid U ((fs.drop (j + 1) ++ rawAll ws pre (l'.drop (k + 1))) ++ mvE ws pre l' x) x y
              rw [HUL.out, List.append_assoc, HRAW.out] at h5
              rw [HU1.out, List.append_assoc, List.cons_append, List.append_assoc U, List.cons_append, List.append_assoc (fs.drop (j + 1)), HRAW.out]
              unfold u64s
              rw [← List.map_set, h5]
              rfl
            rw [hE] at h9
            exact Sep.join (l := [_, _, _]) h9
          case measure => simp [intOf]; omega
        · obtain rfl : j = len := by omega
          have hd0 : fs.drop j = [] := List.drop_of_length_le (by rw [HFL.out]; omega)
          have ht0 : fs.take j = fs := List.take_of_length_le (by rw [HFL.out]; omega)
          rw [hd0] at HIN hS
          rw [ht0] at hS
          have hk1 : k + 1 ≤ l'.length := Nat.le_trans hlk HIN.out.pre_.length_le
          have htt : l'.take (k + 1) = l.take (k + 1) := by
            obtain ⟨r, hr⟩ := HIN.out.pre_
            rw [← hr, List.take_append_of_le_length hlk]
          have HTT := hide htt
          have HCP := hide (show CpSt ws pre gs L (k + 1) l' D nt from ⟨HIN.out.now, HIN.out.ok, HIN.out.nt, HIN.out.cont⟩)
          have HS := hide hS
          clear hd0 ht0 htt hS hS' HIN d1 d4
          go_wp2_with fail
          go_roundw
          case rel =>
            refine ⟨k + 1, nt, ct, l', D, At, hk1, ?_, HCP, ?_⟩
            · rw [HTT.out, HSUM.out]; go_num
            · have h9 := HS.out.sub (List.take_sublist 4 _)
              have hE : mvWords ws pre L (k + 1) l' = U0 ++ hw :: fs.map (transW pre L) ++ ([] ++ rawAll ws pre (l'.drop (k + 1))) := by
                unfold mvWords
                rw [HTT.out, HTK.out, List.flatMap_append, HUU.out, List.flatMap_cons, List.flatMap_nil, List.append_nil, HDN.out, List.nil_append]
              rw [hE]
              exact h9
          case measure =>
            have h8 := hsk1
            rw [HSUM.out] at h8
            simp [intOf]; omega
    · obtain rfl : k = l.length := by omega
      have hLl : L = l := by rw [HST.out.cont, bfs_end _ _ _ _ (Nat.le_refl _)]
      have hE : mvWords ws pre L l.length l = l.flatMap (doneO ws pre L) := by unfold mvWords rawAll; simp
      rw [hE] at hS'
      have HLL := hide hLl
      obtain ⟨b1, b2, b3, b4⟩ := hS'.rules 2 (g := w1.heap.size + 1) (t := 119) rfl
      have b5 : wr.cell? ⟨w1.heap.size + 1, 1, none⟩ = some (.slice At nt ct) := by rw [b1]; rfl
      obtain ⟨y1, y2, y3, y4⟩ := hS'.rules 5 (g := w.heap.size + 1) (t := 55) rfl
      have HS := hide hS'
      have hts : l.take l.length = l := List.take_length
      rw [hts] at hsk ⊢
      have hnl : sumO pre l = nt := hnt.symm
      rw [hnl] at hsk ⊢
      clear hE hS hS' hLl b1 b4 hnt hts hnl
      go_wp2_with fail
      have hF := (HS.out.set_ 5 (g := w.heap.size + 1) (t := 55) rfl 0 (.slice At nt ct)).set_ 5 (g := w.heap.size + 1) (t := 55) rfl 1 (.slice Ar nR cr)
      refine bodyPost_ret (v := .tuple #[.agg #[.slice At nt ct, .slice Ar nR cr], .int .i64 0]) (by simp [results, Try.results31, go_sem, y1]) rfl ⟨_, rfl, hF.below_, ?_⟩
      refine ⟨_, _, _, _, _, _, rfl, ?_, hF.rd 3 rfl⟩
      have h7 := hF.rd 0 rfl
      conv at h7 => rw [← HLL.out]
      exact h7
end Go.Proofs.Ytpbafmdebflbpaa

namespace Go.Proofs.Ytpbafmdebflbpaa
open Go.RowKit Go.Maps

/-! ### Words of an arena as values and back. -/
theorem unN_pack (x : Int) (h0 : 0 ≤ x) (h1 : x ≤ 18446744073709551615) (h2 : x % 2 = 1) : packA false (unN x) = x := by
  have hb : -4611686018427387904 ≤ unN x ∧ unN x ≤ 4611686018427387903 := by unfold unN; split <;> omega
  unfold packA
  rw [if_neg (by simp), if_pos hb]
  unfold packN unN
  split <;> omega
theorem good_vals {nW : Nat} {ws : List Int} {xs : List Int} (h : ∀ x ∈ xs, GoodW (parse nW ws 0).1 x) : ValsOk (parse nW ws 0).1.length (xs.map (turnW (ixOf (parse nW ws 0).1))) := by
  intro v hv h1
  obtain ⟨x, hx, rfl⟩ := List.mem_map.1 hv
  have hr : unR x = true := h1
  have := ((h x hx).ref hr).2.2.2.2
  unfold turnW
  rw [hr]
  dsimp only
  rw [if_pos rfl]
  omega
/-- A word as it is laid when objects are numbered by a list is the word as it moves. -/
theorem pack_trans {nW : Nat} {ws L : List Int} {x : Int} (at_ : List Int) (hw : ∀ x ∈ ws, 0 ≤ x) (hl : ws.length ≤ 256) (hx : GoodW (parse nW ws 0).1 x) (hO : OrdOk (parse nW ws 0).1.length L) (hat : ∀ k, k < L.length → at_[k]? = some (sumO (parse nW ws 0).1 (L.take k) : Int)) (hin : unR x = true → (ixOf (parse nW ws 0).1 (unA x) : Int) ∈ L) :
    packV at_ (turnL L (turnW (ixOf (parse nW ws 0).1) x)) = transW (parse nW ws 0).1 L x := by
  unfold packV turnL transW turnW
  cases hr : unR x with
  | false =>
    simp only [Bool.false_eq_true, if_false]
    have hn := hx.num hr
    have ha : unA x = unN x := by unfold unA; rw [if_pos hn]
    rw [ha]
    exact unN_pack x hx.lo hx.hi hn
  | true =>
    have hi := hin hr
    have hlt := newAt_lt hw hO hi
    have hidx : L.idxOf (ixOf (parse nW ws 0).1 (unA x) : Int) < L.length := List.idxOf_lt_length_of_mem hi
    simp only [if_true]
    rw [show placeN L (ixOf (parse nW ws 0).1 (unA x) : Int) = L.idxOf (ixOf (parse nW ws 0).1 (unA x) : Int) from if_pos hi]
    rw [show ((L.idxOf (ixOf (parse nW ws 0).1 (unA x) : Int) : Nat) : Int).toNat = L.idxOf (ixOf (parse nW ws 0).1 (unA x) : Int) from by omega]
    rw [List.getD_eq_getElem?_getD, hat _ hidx]
    unfold packA
    rw [if_pos rfl, Option.getD_some]
    have e : (sumO (parse nW ws 0).1 (L.take (L.idxOf (ixOf (parse nW ws 0).1 (unA x) : Int))) : Int) = (newAt (parse nW ws 0).1 L (ixOf (parse nW ws 0).1 (unA x) : Int) : Int) := rfl
    rw [e, if_pos (by omega)]

theorem fieldsI_graph {nW : Nat} {ws : List Int} {i : Int} (h0 : 0 ≤ i) (h1 : i < (parse nW ws 0).1.length) : fieldsI (graphOf ws (parse nW ws 0).1) i = ((ws.drop (plc (parse nW ws 0).1 i + 1)).take (lenO (parse nW ws 0).1 i)).map (turnW (ixOf (parse nW ws 0).1)) := by
  generalize (parse nW ws 0).1 = pre at *
  have hil : i.toNat < pre.length := by omega
  have hpi : pre.getD i.toNat (0, 0) = pre[i.toNat] := by rw [List.getD_eq_getElem?_getD, List.getElem?_eq_getElem hil]; rfl
  unfold fieldsI graphOf plc lenO fieldsAt
  rw [List.getD_eq_getElem?_getD, List.getElem?_map, List.getElem?_eq_getElem hil, hpi]
  rfl
theorem renum_at {nW : Nat} {ws L : List Int} (hw : ∀ x ∈ ws, 0 ≤ x) (hO : ∀ i ∈ L, 0 ≤ i ∧ i < ((parse nW ws 0).1.length : Int)) (k : Nat) (hk : k < L.length) : (atF (renumF (graphOf ws (parse nW ws 0).1) L))[k]? = some (sumO (parse nW ws 0).1 (L.take k) : Int) := by
  have key : ∀ l : List Int, (∀ i ∈ l, 0 ≤ i ∧ i < ((parse nW ws 0).1.length : Int)) → ((l.map fun x => (fieldsI (graphOf ws (parse nW ws 0).1) x).map (turnL L)).map fun f => (1 : Int) + (f.length : Int)).sum = (sumO (parse nW ws 0).1 l : Int) := by
    intro l hl
    induction l with
    | nil => rfl
    | cons a l ih =>
      obtain ⟨a0, a1⟩ := hl a (by simp)
      have ih := ih (fun i hi => hl i (by simp [hi]))
      obtain ⟨g1, _, _, _, g5⟩ := rawO_len (nW := nW) (o := 1) hw a0 a1
      unfold rawO at g1
      unfold sumO at *
      simp only [List.map_cons, List.sum_cons] at ih ⊢
      rw [ih, fieldsI_graph a0 a1]
      simp only [List.length_map, List.length_cons] at g1 ⊢
      omega
  unfold atF
  rw [List.getElem?_map, List.getElem?_range (by unfold renumF; rw [List.length_map]; exact hk)]
  simp only [Option.map_some]
  unfold renumF
  rw [← List.map_take, key _ (fun i hi => hO i (List.mem_of_mem_take hi))]
theorem zip_map_map {α β γ : Type} (f : α → β) (g : α → γ) (l : List α) : (l.map f).zip (l.map g) = l.map fun a => (f a, g a) := by
  induction l with
  | nil => rfl
  | cons a l ih => simp [ih]

theorem flatMap_congr2 {α β : Type} {l : List α} {f g : α → List β} (h : ∀ a ∈ l, f a = g a) : l.flatMap f = l.flatMap g := by
  induction l with
  | nil => rfl
  | cons a l ih => rw [List.flatMap_cons, List.flatMap_cons, h a (by simp), ih (fun b hb => h b (by simp [hb]))]

theorem move_words {nW : Nat} {ws L : List Int} (o : Int) (hw : ∀ x ∈ ws, 0 ≤ x) (hl : ws.length ≤ 256) (hgood : ∀ x ∈ fieldsOf ws (parse nW ws 0).1, GoodW (parse nW ws 0).1 x) (hO : OrdOk (parse nW ws 0).1.length L)
    (hcl : ∀ x ∈ L, ∀ v ∈ fieldsI (graphOf ws (parse nW ws 0).1) x, v.1 = true → v.2 ∈ L) :
    layW (renumF (graphOf ws (parse nW ws 0).1) L) (headsAt (headsL ws (parse nW ws 0).1) L o) = L.flatMap fun i => (headW (older o (headOf (ws.getD (plc (parse nW ws 0).1 i) 0))).1 false (older o (headOf (ws.getD (plc (parse nW ws 0).1 i) 0))).2.2) :: ((ws.drop (plc (parse nW ws 0).1 i + 1)).take (lenO (parse nW ws 0).1 i)).map (transW (parse nW ws 0).1 L) := by
  have hat := renum_at (nW := nW) hw hO.rng
  unfold layW
  generalize hA : atF (renumF (graphOf ws (parse nW ws 0).1) L) = A at *
  unfold renumF headsAt
  rw [zip_map_map, List.flatMap_map]
  refine flatMap_congr2 fun i hi => ?_
  obtain ⟨i0, i1⟩ := hO.rng i hi
  have hil : i.toNat < (parse nW ws 0).1.length := by omega
  have hh : (headsL ws (parse nW ws 0).1).getD i.toNat (0, false, 0) = headOf (ws.getD (plc (parse nW ws 0).1 i) 0) := by
    unfold headsL plc
    simp [List.getD_eq_getElem?_getD, List.getElem?_eq_getElem hil]
  dsimp only
  rw [hh, fieldsI_graph i0 i1, List.map_map, List.map_map]
  congr 1
  refine List.map_congr_left fun x hx => ?_
  have hpi : (parse nW ws 0).1.getD i.toNat (0, 0) = (parse nW ws 0).1[i.toNat] := by rw [List.getD_eq_getElem?_getD, List.getElem?_eq_getElem hil]; rfl
  have hx2 : GoodW (parse nW ws 0).1 x := hgood x (List.mem_flatMap.2 ⟨(parse nW ws 0).1[i.toNat], List.getElem_mem hil, by
    rw [← hpi]; exact hx⟩)
  refine pack_trans A hw hl hx2 hO hat (fun hr => ?_)
  have := hcl i hi (turnW (ixOf (parse nW ws 0).1) x) (by rw [fieldsI_graph i0 i1]; exact List.mem_map.2 ⟨x, hx, rfl⟩) hr
  unfold turnW at this
  rw [hr] at this
  simpa using this
end Go.Proofs.Ytpbafmdebflbpaa
