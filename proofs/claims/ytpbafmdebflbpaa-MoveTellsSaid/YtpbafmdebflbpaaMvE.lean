/- move: mover.all. -/
import Derived.Test.YtpbafmdebflbpaaMvD
namespace Go.Proofs.Ytpbafmdebflbpaa
open Go.RowKit Go.Maps

def rawAll (ws : List Int) (pre : List (Nat × Nat)) (l : List Int) : List Int := l.flatMap (rawO ws pre 1)
def mvAll (pre : List (Nat × Nat)) (l : List Int) (vs : List Int) : List Int := vs.foldl (mvL pre) l
theorem rawAll_mv (ws : List Int) (pre : List (Nat × Nat)) (l : List Int) (x : Int) : rawAll ws pre l ++ mvE ws pre l x = rawAll ws pre (mvL pre l x) := by
  unfold mvE
  split
  · rename_i h
    rw [mvL_yes h.1 h.2]
    simp [rawAll]
  · rename_i h
    rw [mvL_no (by
      cases hr : unR x with
      | false => exact .inl rfl
      | true => exact .inr (Classical.byContradiction fun h2 => h ⟨hr, h2⟩)), List.append_nil]
theorem mvAll_seen (pre : List (Nat × Nat)) (l vs : List Int) : mvAll pre l vs = seenAll l (vs.map (turnW (ixOf pre))) := by
  unfold mvAll seenAll
  rw [List.foldl_map]
  rfl
theorem mvAll_pre (pre : List (Nat × Nat)) (l vs : List Int) : l <+: mvAll pre l vs := by rw [mvAll_seen]; exact seenAll_pre _ _
theorem mvAll_app (pre : List (Nat × Nat)) (l vs us : List Int) : mvAll pre l (vs ++ us) = mvAll pre (mvAll pre l vs) us := by unfold mvAll; rw [List.foldl_append]
theorem mvAll_take (pre : List (Nat × Nat)) (l vs : List Int) (k : Nat) : mvAll pre l (vs.take k) <+: mvAll pre l vs := by
  conv => rhs; rw [← List.take_append_drop k vs, mvAll_app]
  exact mvAll_pre _ _ _

set_option maxRecDepth 100000 in
set_option maxHeartbeats 4000000 in
theorem mvall_any (w : World) (Dw : Nat → Prop) (m b : Nat) (D : DataW Unit) (Aw At Av : Option Addr) (nw cw nt ct nv cv : Nat) (ws vs l : List Int) (hs : (allI (MvI m b l.length D At nt ct (rawAll ws (parse nw ws 0).1 l) Aw nw cw)).P w) (hD : ∀ g, (allI (MvI m b l.length D At nt ct (rawAll ws (parse nw ws 0).1 l) Aw nw cw)).fp g → ¬ Dw g) (hDl : ∀ g, Dw g → g < w.heap.size)
    (hW : WsD w Dw Aw nw cw ws) (hn : nw ≤ 256) (hV : Rd w Dw 1 Av nv (u64s vs)) (hnv : nv ≤ 1000) (hO : OrdOk (parse nw ws 0).1.length l) (hN : NowOk (parse nw ws 0).1 l D) (hnt : nt = sumO (parse nw ws 0).1 l) (hx : ∀ x ∈ vs, GoodW (parse nw ws 0).1 x) :
    Calls Try.prog 64 #[.pointer (some ⟨m, 0, none⟩), .slice Av nv cv] w fun e w' => ∃ A' c' D' At' nt' ct', e = .returned (.slice A' nv c') ∧
      NowOk (parse nw ws 0).1 (mvAll (parse nw ws 0).1 l vs) D' ∧ OrdOk (parse nw ws 0).1.length (mvAll (parse nw ws 0).1 l vs) ∧ nt' = sumO (parse nw ws 0).1 (mvAll (parse nw ws 0).1 l vs) ∧
      Sep (allI (MvI m b l.length D At nt ct (rawAll ws (parse nw ws 0).1 l) Aw nw cw)).fp w w' [rowI 24 1 A' nv c' (u64s (vs.map (transW (parse nw ws 0).1 (mvAll (parse nw ws 0).1 l vs)))), allI (MvI m b (mvAll (parse nw ws 0).1 l vs).length D' At' nt' ct' (rawAll ws (parse nw ws 0).1 (mvAll (parse nw ws 0).1 l vs)) Aw nw cw)] := by
  obtain ⟨F, hF⟩ : ∃ F, (allI (MvI m b l.length D At nt ct (rawAll ws (parse nw ws 0).1 l) Aw nw cw)).fp = F := ⟨_, rfl⟩
  have HS0 := hide ((Sep.start hs).nilRow0 24 1)
  rw [hF] at HS0 hD ⊢
  have HVL := hide (show vs.length = nv by have := hV.1; simpa [u64s] using this)
  have MV := hide (fun w' D At nt ct xs l x => mv_any w' Dw m b D Aw At nw cw nt ct ws xs l x)
  obtain ⟨pre, hpre⟩ : ∃ pre, (parse nw ws 0).1 = pre := ⟨_, rfl⟩
  rw [hpre] at HS0 MV hO hN hnt hx ⊢
  have HX := hide hx
  have HO := hide hO
  have HN := hide hN
  have HNT := hide hnt
  have HDD := hide hD
  have HDL := hide hDl
  clear hF hs hpre hO hN hx hnt hD hDl
  go_enter Try.func64, Try.ntmps64
  go_wp2_with fail
  go_loopw [5, 10] (fun s5 i wr => ∃ (k : Nat) (A : Option Addr) (c : Nat) (D' : DataW Unit) (At' : Option Addr) (nt' ct' : Nat), k ≤ nv ∧ i = .int .i64 k ∧ s5 = .slice A k c ∧ Hid (NowOk pre (mvAll pre l (vs.take k)) D') ∧ Hid (OrdOk pre.length (mvAll pre l (vs.take k))) ∧ Hid (nt' = sumO pre (mvAll pre l (vs.take k))) ∧
    Sep F w wr [rowI 24 1 A k c (u64s ((vs.take k).map (transW pre (mvAll pre l vs)))), allI (MvI m b (mvAll pre l (vs.take k)).length D' At' nt' ct' (rawAll ws pre (mvAll pre l (vs.take k))) Aw nw cw)]) (fun _ i _ => nv - (intOf i).toNat)
  case atStart => exact ⟨0, none, 0, D, At, nt, ct, by omega, rfl, rfl, HN, HO, HNT, HS0.out⟩
  case round =>
    clear HS0 HN HO HNT
    obtain ⟨k, A, c, D', At', nt', ct', hk, rfl, rfl, HN, HO, HNT, hS⟩ := hrel
    by_cases hlt : k < nv
    · have hkl : k < vs.length := by rw [HVL.out]; exact hlt
      obtain ⟨ad, hA, _, had, hc⟩ := (hV.chg hS.bel HDD.out).at_ hlt
      have e0 := hc (.int .u64 vs[k]) (by simp [u64s, List.getElem?_eq_getElem hkl])
      have HT := hide (List.take_succ_eq_append_getElem hkl)
      have hgx := HX.out _ (List.getElem_mem hkl)
      have HTK := hide (mvAll_take pre l vs (k + 1))
      obtain ⟨x, hx⟩ : ∃ x, vs[k] = x := ⟨_, rfl⟩
      rw [hx] at e0 HT hgx
      subst hA
      have HST := hide (show mvAll pre l (vs.take (k + 1)) = mvL pre (mvAll pre l (vs.take k)) x from by rw [HT.out, mvAll_app]; rfl)
      rw [HST.out] at HTK
      have HRA := hide (rawAll_mv ws pre (mvAll pre l (vs.take k)) x)
      have HTR := hide (transW_pre HTK.out (fun hr => mvL_mem hr) (x := x))
      have C := hide (MV.out wr D' At' nt' ct' _ (mvAll pre l (vs.take k)) x (hS.get 1 rfl) (fun g hg hd => by
        rcases hS.lo 1 rfl g hg with h | h
        · exact HDD.out g h hd
        · have := HDL.out g hd; omega) (hW.chg hS.bel HDD.out) hn HO.out HN.out HNT.out hgx)
      have HO2 := hide (mvL_ok hgx HO.out)
      have HS := hide hS
      obtain ⟨l1, hl1⟩ : ∃ l1, mvAll pre l (vs.take k) = l1 := ⟨_, rfl⟩
      rw [hl1] at HST HRA HTR C HO2 HS
      obtain ⟨y, hy⟩ : ∃ y, transW pre (mvL pre l1 x) x = y := ⟨_, rfl⟩
      rw [hy] at C HTR
      clear hc hx hgx hS hl1 hy
      go_wp2_with fail
      refine C.out.mono ?_
      rintro e w3 ⟨D3, At3, nt3, ct3, rfl, hN3, hnt3, hS3⟩
      have hS4 := HS.out.call 1 rfl hS3
      have HN3 := hide hN3
      have HNT3 := hide hnt3
      clear hN3 hnt3 hS3 HS C e0 had
      go_wp2_with (first
        | (at_builtin
           refine wpList_app1 (cs := #[.int .u64 y]) rfl (.tmp 14) (.tmp 18) 53 rfl sWord hS4 0 (n := k) rfl rfl rfl (by simp) rfl rfl (by omega) ?_
           intro A4 c4 w4 hS4 hC4))
      go_roundw
      case rel =>
        refine ⟨k + 1, A4, c4, D3, At3, nt3, ct3, by omega, by go_num, rfl, by rw [HST.out]; exact HN3, by rw [HST.out]; exact HO2, by rw [HST.out]; exact HNT3, ?_⟩
        rw [HST.out, ← HRA.out, HT.out, List.map_append, List.map_cons, List.map_nil, HTR.out, u64s_snoc]
        exact hS4
      case measure => simp [intOf]; omega
    · obtain rfl : k = nv := by omega
      rw [show vs.take k = vs from List.take_of_length_le (by rw [HVL.out]; omega)] at hS HN HO HNT
      go_wp2_with fail
      go_ret
      first
        | exact ⟨A, c, D', At', nt', ct', rfl, HN.out, HO.out, HNT.out, hS⟩
        | exact ⟨A, c, rfl, D', HN.out, HO.out, At', nt', ct', HNT.out, hS⟩
end Go.Proofs.Ytpbafmdebflbpaa
