/- Last: the reference's. The law LastTells: the walk. -/
import Derived.Test.YtaajkldhnjoicaaGTrialTells2
import Derived.Test.YtaajkldhnjoicaaGLastTells0
set_option linter.unusedSimpArgs false
set_option linter.unusedVariables false
namespace Go.Proofs.Ytaajkldhnjoicaa
open Go.RowKit

noncomputable def pB (P : Prop) : Bool := @decide P (Classical.propDecidable P)
theorem pB_iff {P : Prop} : pB P = true ↔ P := by unfold pB; exact @decide_eq_true_iff P (Classical.propDecidable P)
theorem pB_eq {P : Prop} {b : Bool} (h : b = true ↔ P) : pB P = b := by rw [Bool.eq_iff_iff, pB_iff, h]

def LaFst (gs : List (List Val)) (n : Nat) (R W ws : List Int) (j : Int) : Prop := j ∈ W ∧ ¬ ∃ i ∈ ws, i ∉ R ∧ Via gs n i j ∧ i ≠ j
def LaSav (gs : List (List Val)) (n : Nat) (R W ws : List Int) (j : Int) : Prop := j ∈ W ∨ ∃ i ∈ ws, i ∉ R ∧ Via gs n i j
section
variable {gs : List (List Val)} {n : Nat} {R W ws : List Int} {j x : Int}
theorem laFst_nil : LaFst gs n R W [] j ↔ j ∈ W := ⟨fun h => h.1, fun h => ⟨h, fun ⟨i, hi, _⟩ => by simp at hi⟩⟩
theorem laSav_nil : LaSav gs n R W [] j ↔ j ∈ W := ⟨fun h => h.elim id (fun ⟨i, hi, _⟩ => by simp at hi), .inl⟩
theorem laFst_snoc : LaFst gs n R W (ws ++ [x]) j ↔ LaFst gs n R W ws j ∧ ¬ (x ∉ R ∧ Via gs n x j ∧ x ≠ j) := by
  unfold LaFst
  constructor
  · rintro ⟨h1, h2⟩
    exact ⟨⟨h1, fun ⟨i, hi, h⟩ => h2 ⟨i, by simp [hi], h⟩⟩, fun h => h2 ⟨x, by simp, h⟩⟩
  · rintro ⟨⟨h1, h2⟩, h3⟩
    refine ⟨h1, fun ⟨i, hi, h⟩ => ?_⟩
    rcases List.mem_append.1 hi with h4 | h4
    · exact h2 ⟨i, h4, h⟩
    · rw [show i = x from by simpa using h4] at h; exact h3 h
theorem laSav_snoc : LaSav gs n R W (ws ++ [x]) j ↔ LaSav gs n R W ws j ∨ (x ∉ R ∧ Via gs n x j) := by
  unfold LaSav
  constructor
  · rintro (h | ⟨i, hi, h⟩)
    · exact .inl (.inl h)
    · rcases List.mem_append.1 hi with h4 | h4
      · exact .inl (.inr ⟨i, h4, h⟩)
      · rw [show i = x from by simpa using h4] at h; exact .inr h
  · rintro ((h | ⟨i, hi, h⟩) | h)
    · exact .inl h
    · exact .inr ⟨i, by simp [hi], h⟩
    · exact .inr ⟨x, by simp, h⟩
end

set_option maxRecDepth 100000 in
set_option maxHeartbeats 16000000 in
theorem refLast_any (w : World) (AO AR AF : Option Addr) (nO cO nR cR nF cF : Nat) (obs : List Ob) (roots : List Val) (from_ : List Int) (hO : ObsRd w (fun _ => True) AO nO obs) (hR : Rd w (fun _ => True) 2 AR nR (vals roots)) (hF : Rd w (fun _ => True) 1 AF nF (ints from_)) (hG : GOk nO nR obs roots) (hnF : nF ≤ 24) (hfr : ∀ x ∈ from_, 0 ≤ x ∧ x < (nO : Int)) :
    Calls Try.prog 27 #[.agg #[.slice AO nO cO, .slice AR nR cR], .slice AF nF cF] w fun e w' => ∃ (A : Option Addr) (n c : Nat) (A2 : Option Addr) (n2 c2 : Nat), e = .returned (.tuple #[.slice A n c, .slice A2 n2 c2]) ∧ n ≤ nO ∧ n2 ≤ nO ∧
      Sep No w w' [rowI 3 1 A n c (ints (filt (fun j => pB ((j : Int) ∉ reachR (obs.map Ob.fields) roots ∧ LaFst (obs.map Ob.fields) nO (reachR (obs.map Ob.fields) roots) from_ from_ j)) nO)), rowI 3 1 A2 n2 c2 (ints (filt (fun j => pB ((j : Int) ∉ reachR (obs.map Ob.fields) roots ∧ LaSav (obs.map Ob.fields) nO (reachR (obs.map Ob.fields) roots) from_ from_ j)) nO))] := by
  have hn := hG.nO_
  have hS0 := (Sep.nil No w).blkAt 25 #[.slice AO nO cO, .slice AR nR cR] rfl
  obtain ⟨a1, a2, a3, a4⟩ := hS0.rules 0 (g := w.heap.size) (t := 25) rfl
  have a5 := a1 0
  have a6 := a1 1
  have hfl : from_.length = nF := by have := hF.1; simpa using this
  have hGR := graphRd_of hO (cO := cO) hR (cR := cR)
  have hRl : (reachR (obs.map Ob.fields) roots).length ≤ 24 := by have := (reach_ok (gs := obs.map Ob.fields) (vs := roots)).len; have := hG.len; omega
  have C3 := hide (fun w' (hb : Below w.heap.size w w') => reach_any w' _ _ _ (hGR.below hb) (by have := hG.len; omega) (by have := hG.nR_; have := roots_len hR; omega) (fun fs hfs => by have := hG.fs fs hfs; omega))
  obtain ⟨gs, hgs⟩ : ∃ gs, obs.map Ob.fields = gs := ⟨_, rfl⟩
  have hv : ∀ x : Int, ValsOk nO (fieldsI gs x) := fun x => by have := fieldsI_ok (x := x) hG.vg; rw [hG.len, hgs] at this; exact this
  have C1 := hide (ways_any _ AO AR nO cO nR cR obs (hO.below hS0.below_) hn hG.fl (by rw [hgs]; exact hv))
  rw [hgs] at C1 hRl ⊢
  simp only [hgs] at C3
  obtain ⟨R, hRr⟩ : ∃ R, reachR gs roots = R := ⟨_, rfl⟩
  simp only [hRr] at C3 hRl ⊢
  have HFR := hide hfr
  have HFL := hide hfl
  have HRL := hide hRl
  have HFD := hide hF
  have HS0 := hide hS0
  have hm1 : nO * nO ≤ 576 := Nat.mul_le_mul hn hn
  obtain ⟨N, hN⟩ : ∃ N, nO * nO = N := ⟨_, rfl⟩
  have HN := hide hN
  rw [hN] at hm1 C1
  clear hS0 a1 a4 hG hfl hfr hgs hv hN hO hR hF hGR hRl hRr
  go_enter Try.func27, Try.ntmps27
  go_wp2_with fail
  refine C1.out.mono ?_
  rintro e w1 ⟨A1, c1, ws, rfl, hws, hP⟩
  have HWS := hide hws
  have hS1 := sepNewR HS0.out hP
  obtain ⟨b1, b2, b3, b4⟩ := hS1.rules 0 (g := w.heap.size) (t := 25) rfl
  have b5 := b1 0
  have b6 := b1 1
  have HS1 := hide hS1
  clear hP HS0 C1 a2 a3 a5 a6 hws hS1 b1 b4
  go_wp2_with fail
  refine (C3.out _ HS1.out.below_).mono ?_
  rintro e w2 ⟨A2, n2, c2, rfl, hP2⟩
  have hS2 := (((sepNewR HS1.out hP2).sub (l := [rowI 4 1 A1 N c1 (bls ws), rowI 3 1 A2 n2 c2 (ints R)]) (by simp)).nilRow0 3 1).nilRow0 3 1
  have hnr : n2 = R.length := by have := (hS2.rd_ 3 rfl).1; simpa using this.symm
  have hn2 : n2 ≤ 24 := by have := HRL.out; omega
  have HS2 := hide hS2
  clear hP2 hS2 HS1 C3 b2 b3 b5 b6 hnr
  go_wp2_with fail
  go_loopw [9, 10, 11] (fun s9 s10 s wr => ∃ (j m1 d1 m2 d2 : Nat) (B1 B2 : Option Addr), j ≤ nO ∧ s = .int .i64 j ∧ s9 = .slice B1 m1 d1 ∧ s10 = .slice B2 m2 d2 ∧ m1 ≤ j ∧ m2 ≤ j ∧ Sep No w wr [rowI 3 1 B1 m1 d1 (ints (filt (fun j => pB ((j : Int) ∉ R ∧ LaFst gs nO R from_ from_ j)) j)), rowI 3 1 B2 m2 d2 (ints (filt (fun j => pB ((j : Int) ∉ R ∧ LaSav gs nO R from_ from_ j)) j)), rowI 4 1 A1 N c1 (bls ws), rowI 3 1 A2 n2 c2 (ints R)]) (fun _ _ s _ => nO - (intOf s).toNat)
  case atStart => exact ⟨0, 0, 0, 0, 0, none, none, by omega, rfl, rfl, rfl, by omega, by omega, HS2.out⟩
  case round =>
    clear HS2
    obtain ⟨j, m1, d1, m2, d2, B1, B2, hj, rfl, rfl, rfl, hm1', hm2', hS⟩ := hrel
    have HU1 := hide (filt_succ (fun j => pB ((j : Int) ∉ R ∧ LaFst gs nO R from_ from_ j)) j)
    have HU2 := hide (filt_succ (fun j => pB ((j : Int) ∉ R ∧ LaSav gs nO R from_ from_ j)) j)
    by_cases hlj : j < nO
    · have C5 := has_any wr (fun _ => True) A2 n2 c2 R (j : Int) (by omega) (hS.rd_ 3 rfl)
      by_cases hin : (j : Int) ∈ R
      · rw [show decide ((j : Int) ∈ R) = true from by simp [hin]] at C5
        have HC := hide C5
        have HV1 := hide (HU1.out.trans (show _ = filt (fun j => pB ((j : Int) ∉ R ∧ LaFst gs nO R from_ from_ j)) j from by rw [if_neg (by rw [pB_iff]; exact fun h => h.1 hin), List.append_nil]))
        have HV2 := hide (HU2.out.trans (show _ = filt (fun j => pB ((j : Int) ∉ R ∧ LaSav gs nO R from_ from_ j)) j from by rw [if_neg (by rw [pB_iff]; exact fun h => h.1 hin), List.append_nil]))
        have HS := hide hS
        clear hS C5 hin HU1 HU2
        go_wp2_with fail
        refine HC.out.mono ?_
        rintro e w5 ⟨rfl, rfl⟩
        go_wp2_with fail
        go_roundw
        case rel => exact ⟨j + 1, m1, d1, m2, d2, B1, B2, by omega, by go_num, rfl, rfl, by omega, by omega, by rw [HV1.out, HV2.out]; exact HS.out⟩
        case measure => simp [intOf]; omega
      · rw [show decide ((j : Int) ∈ R) = false from by simp [hin]] at C5
        have HC := hide C5
        have HC6 := hide (has_any wr (fun _ => True) AF nF cF from_ (j : Int) (by omega) (HFD.out.below hS.below_))
        obtain ⟨b0, hb0⟩ : ∃ b, decide ((j : Int) ∈ from_) = b := ⟨_, rfl⟩
        rw [hb0] at HC6
        have HB1 := hide (show Yes b0 ↔ LaFst gs nO R from_ (from_.take 0) j from by rw [List.take_zero, laFst_nil, ← hb0]; exact decide_eq_true_iff)
        have HB2 := hide (show Yes b0 ↔ LaSav gs nO R from_ (from_.take 0) j from by rw [List.take_zero, laSav_nil, ← hb0]; exact decide_eq_true_iff)
        have HS := hide hS
        have HIN := hide hin
        clear hS C5 hb0 hin
        go_wp2_with fail
        refine HC.out.mono ?_
        rintro e w5 ⟨rfl, rfl⟩
        go_wp2_with fail
        refine HC6.out.mono ?_
        rintro e w5 ⟨rfl, rfl⟩
        go_wp2_with fail
        refine HC6.out.mono ?_
        rintro e w5 ⟨rfl, rfl⟩
        clear HC HC6
        go_wp2_with fail
        go_loopw [12, 13, 39] (fun s12 s13 s wr => ∃ (k : Nat) (f v : Bool), k ≤ nF ∧ s = .int .i64 k ∧ s12 = .bool f ∧ s13 = .bool v ∧ Hid (Yes f ↔ LaFst gs nO R from_ (from_.take k) j) ∧ Hid (Yes v ↔ LaSav gs nO R from_ (from_.take k) j) ∧ Sep No w wr [rowI 3 1 B1 m1 d1 (ints (filt (fun j => pB ((j : Int) ∉ R ∧ LaFst gs nO R from_ from_ j)) j)), rowI 3 1 B2 m2 d2 (ints (filt (fun j => pB ((j : Int) ∉ R ∧ LaSav gs nO R from_ from_ j)) j)), rowI 4 1 A1 N c1 (bls ws), rowI 3 1 A2 n2 c2 (ints R)]) (fun _ _ s _ => nF - (intOf s).toNat)
        case atStart => exact ⟨0, b0, b0, by omega, rfl, rfl, rfl, HB1, HB2, HS.out⟩
        case round =>
          clear HS HB1 HB2
          obtain ⟨k, f, v, hk, rfl, rfl, rfl, HB1, HB2, hS⟩ := hrel
          by_cases hlt : k < nF
          · have hkl : k < from_.length := by rw [HFL.out]; exact hlt
            obtain ⟨ad, hA, _, had, hc⟩ := (HFD.out.below hS.below_).at_ hlt
            have e0 := hc _ (ints_get' from_ k hkl)
            obtain ⟨r0, r1⟩ := HFR.out _ (List.getElem_mem hkl)
            obtain ⟨z, hz⟩ := int_nat r0
            have HTK := hide (List.take_succ_eq_append_getElem hkl)
            rw [hz] at e0 r1 HTK
            have hz2 : z < nO := by omega
            have C5 := has_any wr (fun _ => True) A2 n2 c2 R (z : Int) (by omega) (hS.rd_ 3 rfl)
            have HF1 := hide (laFst_snoc (gs := gs) (n := nO) (R := R) (W := from_) (ws := from_.take k) (j := (j : Int)) (x := (z : Int)))
            have HF2 := hide (laSav_snoc (gs := gs) (n := nO) (R := R) (W := from_) (ws := from_.take k) (j := (j : Int)) (x := (z : Int)))
            rw [← HTK.out] at HF1 HF2
            subst hA
            clear hc hz r0
            by_cases hzR : (z : Int) ∈ R
            · rw [show decide ((z : Int) ∈ R) = true from by simp [hzR]] at C5
              have HC := hide C5
              have HG1 := hide (show Yes f ↔ LaFst gs nO R from_ (from_.take (k + 1)) j from HB1.out.trans (by rw [HF1.out]; exact ⟨fun h => ⟨h, fun h2 => h2.1 hzR⟩, fun h => h.1⟩))
              have HG2 := hide (show Yes v ↔ LaSav gs nO R from_ (from_.take (k + 1)) j from HB2.out.trans (by rw [HF2.out]; exact ⟨.inl, fun h => h.elim id (fun h2 => absurd hzR h2.1)⟩))
              have HS := hide hS
              clear hS C5 hzR HB1 HB2 HF1 HF2
              go_wp2_with fail
              refine HC.out.mono ?_
              rintro e w6 ⟨rfl, rfl⟩
              go_wp2_with fail
              go_roundw
              case rel => exact ⟨k + 1, f, v, by omega, by go_num, rfl, rfl, HG1, HG2, HS.out⟩
              case measure => simp [intOf]; omega
            · rw [show decide ((z : Int) ∈ R) = false from by simp [hzR]] at C5
              have HC := hide C5
              obtain ⟨q, hq⟩ : ∃ q, z * nO = q := ⟨_, rfl⟩
              have HQ := hide hq
              have hqi : ((z : Int) * (nO : Int)) = (q : Int) := by rw [← hq]; simp
              have hqN : q + nO ≤ N := by rw [← hq, ← HN.out, ← Nat.succ_mul]; exact Nat.mul_le_mul_right _ hz2
              obtain ⟨gw, hgw, f1, f2⟩ := bls_cell (hS.get 2 rfl) (q + j) (by omega)
              have hwy := HWS.out z j hz2 hlj
              unfold wyAt at hwy
              rw [HQ.out] at hwy
              obtain ⟨y, hy⟩ : ∃ y, ws.getD (q + j) false = y := ⟨_, rfl⟩
              rw [hy] at f1 hwy
              have HWY := hide hwy
              have HZR := hide hzR
              have HS := hide hS
              subst hgw
              clear hS C5 hzR hq hy hwy
              cases y with
              | true =>
                have HG2 := hide (show Yes true ↔ LaSav gs nO R from_ (from_.take (k + 1)) j from ⟨fun _ => HF2.out.2 (.inr ⟨HZR.out, HWY.out.1 rfl⟩), fun _ => rfl⟩)
                by_cases hzj : z = j
                · subst hzj
                  have HG1 := hide (show Yes f ↔ LaFst gs nO R from_ (from_.take (k + 1)) z from HB1.out.trans (by rw [HF1.out]; exact ⟨fun h => ⟨h, fun h2 => h2.2.2 rfl⟩, fun h => h.1⟩))
                  clear HB1 HB2 HF1 HF2
                  go_wp2_with fail
                  refine HC.out.mono ?_
                  rintro e w6 ⟨rfl, rfl⟩
                  go_wp2_with fail
                  go_roundw
                  case rel => exact ⟨k + 1, f, true, by omega, by go_num, rfl, rfl, HG1, HG2, HS.out⟩
                  case measure => simp [intOf]; omega
                · have k3 : ((z : Int) != (j : Int)) = true := by rw [bne_iff_ne]; omega
                  have k4 : (z != j) = true := by simp [hzj]
                  have HG1 := hide (show Yes false ↔ LaFst gs nO R from_ (from_.take (k + 1)) j from ⟨(fun h => by cases h), fun h => ((HF1.out.1 h).2 ⟨HZR.out, HWY.out.1 rfl, by omega⟩).elim⟩)
                  clear HB1 HB2 HF1 HF2 hzj
                  go_wp2_with fail
                  refine HC.out.mono ?_
                  rintro e w6 ⟨rfl, rfl⟩
                  go_wp2_with fail
                  go_roundw
                  case rel => exact ⟨k + 1, false, true, by omega, by go_num, rfl, rfl, HG1, HG2, HS.out⟩
                  case measure => simp [intOf]; omega
              | false =>
                have hnv : ¬ Via gs nO z j := fun h => by have := HWY.out.2 h; cases this
                have HG1 := hide (show Yes f ↔ LaFst gs nO R from_ (from_.take (k + 1)) j from HB1.out.trans (by rw [HF1.out]; exact ⟨fun h => ⟨h, fun h2 => hnv h2.2.1⟩, fun h => h.1⟩))
                have HG2 := hide (show Yes v ↔ LaSav gs nO R from_ (from_.take (k + 1)) j from HB2.out.trans (by rw [HF2.out]; exact ⟨.inl, fun h => h.elim id (fun h2 => absurd h2.2 hnv)⟩))
                clear HB1 HB2 HF1 HF2 hnv
                go_wp2_with fail
                refine HC.out.mono ?_
                rintro e w6 ⟨rfl, rfl⟩
                go_wp2_with fail
                go_roundw
                case rel => exact ⟨k + 1, f, v, by omega, by go_num, rfl, rfl, HG1, HG2, HS.out⟩
                case measure => simp [intOf]; omega
          · obtain rfl : k = nF := by omega
            rw [List.take_of_length_le (by rw [HFL.out]; omega)] at HB1 HB2
            have HP1 := hide (show pB ((j : Int) ∉ R ∧ LaFst gs nO R from_ from_ j) = f from pB_eq ⟨fun h => ⟨HIN.out, HB1.out.1 h⟩, fun h => HB1.out.2 h.2⟩)
            have HP2 := hide (show pB ((j : Int) ∉ R ∧ LaSav gs nO R from_ from_ j) = v from pB_eq ⟨fun h => ⟨HIN.out, HB2.out.1 h⟩, fun h => HB2.out.2 h.2⟩)
            rw [HP1.out] at HU1
            rw [HP2.out] at HU2
            clear HB1 HB2 HP1 HP2
            cases f with
            | true =>
              have HV1 := hide (HU1.out.trans (show _ = filt (fun j => pB ((j : Int) ∉ R ∧ LaFst gs nO R from_ from_ j)) j ++ [(j : Int)] from by simp))
              cases v with
              | true =>
                have HV2 := hide (HU2.out.trans (show _ = filt (fun j => pB ((j : Int) ∉ R ∧ LaSav gs nO R from_ from_ j)) j ++ [(j : Int)] from by simp))
                clear HU1 HU2
                go_wp2_with (first
                  | (at_builtin
                     refine wpList_app1 (cs := #[.int .i64 j]) rfl (.tmp 62) (.tmp 64) 35 rfl sInt hS 0 (n := m1) rfl rfl rfl (by simp) rfl rfl (by omega) ?_
                     intro A5 c5 w5 hS5 hC5)
                  | (at_builtin
                     refine wpList_app1 (cs := #[.int .i64 j]) rfl (.tmp 67) (.tmp 69) 35 rfl sInt hS5 1 (n := m2) rfl rfl rfl (by simp) rfl rfl (by omega) ?_
                     intro A6 c6 w6 hS6 hC6))
                go_roundw
                case rel => exact ⟨j + 1, m1 + 1, c5, m2 + 1, c6, A5, A6, by omega, by go_num, rfl, rfl, by omega, by omega, by rw [HV1.out, HV2.out, ints_snoc_, ints_snoc_]; exact hS6⟩
                case measure => simp [intOf]; omega
              | false =>
                have HV2 := hide (HU2.out.trans (show _ = filt (fun j => pB ((j : Int) ∉ R ∧ LaSav gs nO R from_ from_ j)) j from by simp))
                clear HU1 HU2
                go_wp2_with (first
                  | (at_builtin
                     refine wpList_app1 (cs := #[.int .i64 j]) rfl (.tmp 62) (.tmp 64) 35 rfl sInt hS 0 (n := m1) rfl rfl rfl (by simp) rfl rfl (by omega) ?_
                     intro A5 c5 w5 hS5 hC5))
                go_roundw
                case rel => exact ⟨j + 1, m1 + 1, c5, m2, d2, A5, B2, by omega, by go_num, rfl, rfl, by omega, by omega, by rw [HV1.out, HV2.out, ints_snoc_]; exact hS5⟩
                case measure => simp [intOf]; omega
            | false =>
              have HV1 := hide (HU1.out.trans (show _ = filt (fun j => pB ((j : Int) ∉ R ∧ LaFst gs nO R from_ from_ j)) j from by simp))
              cases v with
              | true =>
                have HV2 := hide (HU2.out.trans (show _ = filt (fun j => pB ((j : Int) ∉ R ∧ LaSav gs nO R from_ from_ j)) j ++ [(j : Int)] from by simp))
                clear HU1 HU2
                go_wp2_with (first
                  | (at_builtin
                     refine wpList_app1 (cs := #[.int .i64 j]) rfl (.tmp 67) (.tmp 69) 35 rfl sInt hS 1 (n := m2) rfl rfl rfl (by simp) rfl rfl (by omega) ?_
                     intro A6 c6 w6 hS6 hC6))
                go_roundw
                case rel => exact ⟨j + 1, m1, d1, m2 + 1, c6, B1, A6, by omega, by go_num, rfl, rfl, by omega, by omega, by rw [HV1.out, HV2.out, ints_snoc_]; exact hS6⟩
                case measure => simp [intOf]; omega
              | false =>
                have HV2 := hide (HU2.out.trans (show _ = filt (fun j => pB ((j : Int) ∉ R ∧ LaSav gs nO R from_ from_ j)) j from by simp))
                have HS := hide hS
                clear HU1 HU2 hS
                go_wp2_with fail
                go_roundw
                case rel => exact ⟨j + 1, m1, d1, m2, d2, B1, B2, by omega, by go_num, rfl, rfl, by omega, by omega, by rw [HV1.out, HV2.out]; exact HS.out⟩
                case measure => simp [intOf]; omega
    · obtain rfl : j = nO := by omega
      have HS := hide hS
      clear hS HU1 HU2
      go_wp2_with fail
      go_ret2
      exact ⟨B1, m1, d1, B2, m2, d2, rfl, hm1', hm2', HS.out.sub (by simp)⟩
end Go.Proofs.Ytaajkldhnjoicaa

namespace Go.Proofs.Ytaajkldhnjoicaa
open Go.RowKit

theorem mem_reachD {gs : List (List Val)} {vs : List Val} {j : Nat} (hj : j < gs.length) : (j : Int) ∈ reachR gs vs ↔ 0 ≤ (distR gs vs).getD j 0 := by
  unfold reachR
  rw [List.mem_map]
  constructor
  · rintro ⟨i, hi, he⟩
    obtain rfl : i = j := by omega
    simpa using (List.mem_filter.1 hi).2
  · intro h
    exact ⟨j, List.mem_filter.2 ⟨List.mem_range.2 hj, by simpa using h⟩, rfl⟩
theorem last_eq {gs : List (List Val)} {vs : List Val} {n : Nat} {fs L S H : List Int} (hn : gs.length = n) (hf : ∀ x ∈ fs, 0 ≤ x ∧ x < (n : Int)) (hL : L = lostL (distR gs vs) fs)
    (hs : (∀ y, y ∈ S ↔ ∃ x ∈ L, y = x ∨ (Via gs n x y ∧ (distR gs vs).getD y.toNat 0 < 0)) ∧ ∀ y, y ∈ H ↔ ∃ x ∈ L, Via gs n x y ∧ y ≠ x) :
    filt (fun i => decide ((i : Int) ∈ L) && !decide ((i : Int) ∈ H)) n = filt (fun j => pB ((j : Int) ∉ reachR gs vs ∧ LaFst gs n (reachR gs vs) fs fs j)) n ∧
    filt (fun i => decide ((i : Int) ∈ S)) n = filt (fun j => pB ((j : Int) ∉ reachR gs vs ∧ LaSav gs n (reachR gs vs) fs fs j)) n := by
  have hR : ∀ x : Int, 0 ≤ x → x < (n : Int) → (x ∉ reachR gs vs ↔ (distR gs vs).getD x.toNat 0 < 0) := fun x h0 h1 => by
    obtain ⟨z, rfl⟩ := int_nat h0
    rw [mem_reachD (by omega), show ((z : Int)).toNat = z from by omega]; omega
  have hLm : ∀ x, x ∈ L ↔ x ∈ fs ∧ x ∉ reachR gs vs := fun x => by
    rw [hL, mem_lostL]
    exact and_congr_right fun h => (hR x (hf x h).1 (hf x h).2).symm
  constructor
  · refine filt_congr fun j hj => ?_
    rw [Bool.eq_iff_iff, pB_iff, Bool.and_eq_true, decide_eq_true_iff, Bool.not_eq_true', decide_eq_false_iff_not, hLm, hs.2]
    unfold LaFst
    constructor
    · rintro ⟨⟨h1, h2⟩, h3⟩
      exact ⟨h2, h1, fun ⟨i, h4, h5, h6, h7⟩ => h3 ⟨i, (hLm i).2 ⟨h4, h5⟩, h6, fun e => h7 e.symm⟩⟩
    · rintro ⟨h1, h2, h3⟩
      exact ⟨⟨h2, h1⟩, fun ⟨x, h4, h5, h6⟩ => h3 ⟨x, ((hLm x).1 h4).1, ((hLm x).1 h4).2, h5, fun e => h6 e.symm⟩⟩
  · refine filt_congr fun j hj => ?_
    rw [Bool.eq_iff_iff, pB_iff, decide_eq_true_iff, hs.1]
    unfold LaSav
    have hRj := hR (j : Int) (by omega) (by omega)
    constructor
    · rintro ⟨x, h1, h2⟩
      obtain ⟨h3, h4⟩ := (hLm x).1 h1
      rcases h2 with rfl | ⟨h5, h6⟩
      · exact ⟨h4, .inl h3⟩
      · exact ⟨hRj.2 h6, .inr ⟨x, h3, h4, h5⟩⟩
    · rintro ⟨h1, h2 | ⟨i, h3, h4, h5⟩⟩
      · exact ⟨j, (hLm j).2 ⟨h2, h1⟩, .inl rfl⟩
      · exact ⟨i, (hLm i).2 ⟨h3, h4⟩, .inr ⟨h5, hRj.1 h1⟩⟩

theorem perm3_ {α : Type} (a b c : α) : [a, b, c].Perm [c, a, b] := by
  classical
  rw [List.perm_iff_count]
  intro x
  simp only [List.count_cons, List.count_nil]
  omega
set_option maxRecDepth 100000 in
set_option maxHeartbeats 4000000 in
theorem last_bad (w : World) (AO AR AF : Option Addr) (nO cO nR cR nF cF : Nat) (obs : List Ob) (roots : List Val) (hO : ObsRd w (fun _ => True) AO nO obs) (hR : Rd w (fun _ => True) 2 AR nR (vals roots)) (hz : gcheck nO nR obs roots ≠ 0) :
    Calls Try.prog 26 #[.agg #[.slice AO nO cO, .slice AR nR cR], .slice AF nF cF] w fun e w' => e = .returned (.tuple #[.slice none 0 0, .slice none 0 0, .int .i64 (gcheck nO nR obs roots)]) ∧ Below w.heap.size w w' := by
  have hS0 := (Sep.nil No w).blkAt 25 #[.slice AO nO cO, .slice AR nR cR] rfl
  obtain ⟨a1, a2, a3, a4⟩ := hS0.rules 0 (g := w.heap.size) (t := 25) rfl
  have C1 := hide (graphCheck_any _ AO AR nO cO nR cR obs roots (hO.below hS0.below_) (hR.below hS0.below_))
  obtain ⟨x, hx⟩ : ∃ x, gcheck nO nR obs roots = x := ⟨_, rfl⟩
  rw [hx] at C1 hz ⊢
  have y1 : (x != 0) = true := by rw [bne_iff_ne]; exact hz
  clear hx
  have HS0 := hide hS0
  clear hz hS0 a4
  go_enter Try.func26, Try.ntmps26
  go_wp2_with fail
  refine C1.out.mono ?_
  rintro e w1 ⟨rfl, hb1⟩
  have hS1 := HS0.out.below hb1
  have HB := hide hS1.below_
  clear hS1 hb1
  go_wp2_with fail
  go_ret3
  exact ⟨rfl, HB.out⟩
set_option maxRecDepth 100000 in
set_option maxHeartbeats 4000000 in
theorem last_large (w : World) (AO AR AF : Option Addr) (nO cO nR cR nF cF : Nat) (obs : List Ob) (roots : List Val) (hO : ObsRd w (fun _ => True) AO nO obs) (hR : Rd w (fun _ => True) 2 AR nR (vals roots)) (hz : gcheck nO nR obs roots = 0) (hn : 24 < nF) :
    Calls Try.prog 26 #[.agg #[.slice AO nO cO, .slice AR nR cR], .slice AF nF cF] w fun e w' => e = .returned (.tuple #[.slice none 0 0, .slice none 0 0, .int .i64 1]) ∧ Below w.heap.size w w' := by
  have hS0 := (Sep.nil No w).blkAt 25 #[.slice AO nO cO, .slice AR nR cR] rfl
  obtain ⟨a1, a2, a3, a4⟩ := hS0.rules 0 (g := w.heap.size) (t := 25) rfl
  have C1 := hide (graphCheck_any _ AO AR nO cO nR cR obs roots (hO.below hS0.below_) (hR.below hS0.below_))
  rw [hz] at C1
  have HS0 := hide hS0
  clear hz hS0 a4
  go_enter Try.func26, Try.ntmps26
  go_wp2_with fail
  refine C1.out.mono ?_
  rintro e w1 ⟨rfl, hb1⟩
  have hS1 := HS0.out.below hb1
  have HB := hide hS1.below_
  clear hS1 hb1
  go_wp2_with fail
  go_ret3
  exact ⟨rfl, HB.out⟩
set_option maxRecDepth 100000 in
set_option maxHeartbeats 4000000 in
theorem last_arg (w : World) (AO AR AF : Option Addr) (nO cO nR cR nF cF : Nat) (obs : List Ob) (roots : List Val) (from_ : List Int) (hO : ObsRd w (fun _ => True) AO nO obs) (hR : Rd w (fun _ => True) 2 AR nR (vals roots)) (hF : Rd w (fun _ => True) 1 AF nF (ints from_)) (hz : gcheck nO nR obs roots = 0) (hn : nF ≤ 24) (hfr : ¬ Fine nO from_) :
    Calls Try.prog 26 #[.agg #[.slice AO nO cO, .slice AR nR cR], .slice AF nF cF] w fun e w' => e = .returned (.tuple #[.slice none 0 0, .slice none 0 0, .int .i64 2]) ∧ Below w.heap.size w w' := by
  have hS0 := (Sep.nil No w).blkAt 25 #[.slice AO nO cO, .slice AR nR cR] rfl
  obtain ⟨a1, a2, a3, a4⟩ := hS0.rules 0 (g := w.heap.size) (t := 25) rfl
  have C1 := hide (graphCheck_any _ AO AR nO cO nR cR obs roots (hO.below hS0.below_) (hR.below hS0.below_))
  rw [hz] at C1
  have hno : from_.any (badI nO) = true := by
    cases h : from_.any (badI nO) with
    | true => rfl
    | false =>
      refine absurd (fun x hx => ?_) hfr
      have := List.any_eq_false.1 h x hx
      unfold badI at this
      simp at this
      omega
  have C2 := hide (fun (W : World) (hb : Below w.heap.size w W) (hB : Blk W w.heap.size 25 #[.slice AO nO cO, .slice AR nR cR]) => lastContains_any W AF nF cF w.heap.size nO cO nR cR AO AR from_ (by omega) (hF.below hb) hB)
  rw [hno] at C2
  clear hno hfr
  have HS0 := hide hS0
  clear hz hS0 a4
  go_enter Try.func26, Try.ntmps26
  go_wp2_with fail
  refine C1.out.mono ?_
  rintro e w1 ⟨rfl, hb1⟩
  have hS1 := HS0.out.below hb1
  have HS1 := hide hS1
  go_wp2_with fail
  refine (C2.out w1 HS1.out.below_ (HS1.out.get 0 rfl)).mono ?_
  rintro e w2 ⟨rfl, rfl⟩
  have HB := hide hS1.below_
  clear hS1 hb1
  go_wp2_with fail
  go_ret3
  exact ⟨rfl, HB.out⟩
set_option maxRecDepth 100000 in
set_option maxHeartbeats 4000000 in
theorem lastTells_no (w : World) (AO AR AF : Option Addr) (nO cO nR cR nF cF : Nat) (obs : List Ob) (roots : List Val) (hO : ObsRd w (fun _ => True) AO nO obs) (hR : Rd w (fun _ => True) 2 AR nR (vals roots)) (hz : gcheck nO nR obs roots ≠ 0) (hnF : nF ≤ 9223372036854775807) :
    Calls Try.prog 6 #[.agg #[.slice AO nO cO, .slice AR nR cR], .slice AF nF cF] w fun e w' => e = .returned (.bool true) ∧ Below w.heap.size w w' := by
  have hB0 : Below w.heap.size w (w.alloc (.cells #[.slice AO nO cO, .slice AR nR cR] 25)) := (Below.refl _ w).alloc (Nat.le_refl _) _
  have BA := hide (Blk.new w 25 #[.slice AO nO cO, .slice AR nR cR])
  have HB0 := hide hB0
  have C1 := hide (fun w' (hb : Below w.heap.size w w') => last_bad w' AO AR AF nO cO nR cR nF cF obs roots (hO.below hb) (hR.below hb) hz)
  have C4 := hide (fun w' (hb : Below w.heap.size w w') => refCheck_any w' AO AR nO cO nR cR obs roots (hO.below hb) (hR.below hb))
  obtain ⟨x, hx⟩ : ∃ x, gcheck nO nR obs roots = x := ⟨_, rfl⟩
  simp only [hx] at C1 C4
  rw [hx] at hz
  have y1 : (x != 0) = true := by rw [bne_iff_ne]; exact hz
  have y2 : (x == 0) = false := by simp [hz]
  obtain ⟨a1, a2, a3⟩ := BA.out.rules
  clear hz hx hB0
  go_enter Try.func6, Try.ntmps6
  go_wp2_with fail
  refine (C1.out _ HB0.out).mono ?_
  rintro e w1 ⟨rfl, hb1⟩
  have HB1 := hide (HB0.out.trans (hb1.mono HB0.out.size))
  have BA1 := hide (BA.out.below_ hb1)
  clear hb1 HB0 BA C1 a1 a2 a3
  obtain ⟨a1, a2, a3⟩ := BA1.out.rules
  go_wp2_with fail
  refine (C4.out _ HB1.out).mono ?_
  rintro e w4 ⟨rfl, hb4⟩
  have HB4 := hide (HB1.out.trans (hb4.mono HB1.out.size))
  clear hb4 HB1 BA1 C4 a1 a2 a3
  go_wp2_with fail
  go_loop [8, 9] (fun s7 s8 => s7 = .int .i64 x ∧ s8 = .int .i64 0) (fun _ _ => 0)
  case atStart => exact ⟨rfl, rfl⟩
  case round =>
    obtain ⟨rfl, rfl⟩ := hrel
    by_cases h0 : 0 < nF
    · go_wp2_with fail
      go_ret
      exact ⟨rfl, HB4.out⟩
    · obtain rfl : nF = 0 := by omega
      go_wp2_with fail
      go_ret
      exact ⟨rfl, HB4.out⟩
set_option maxRecDepth 100000 in
set_option maxHeartbeats 4000000 in
theorem lastTells_large (w : World) (AO AR AF : Option Addr) (nO cO nR cR nF cF : Nat) (obs : List Ob) (roots : List Val) (hO : ObsRd w (fun _ => True) AO nO obs) (hR : Rd w (fun _ => True) 2 AR nR (vals roots)) (hz : gcheck nO nR obs roots = 0) (hn : 24 < nF) (hnF : nF ≤ 9223372036854775807) :
    Calls Try.prog 6 #[.agg #[.slice AO nO cO, .slice AR nR cR], .slice AF nF cF] w fun e w' => e = .returned (.bool true) ∧ Below w.heap.size w w' := by
  have hB0 : Below w.heap.size w (w.alloc (.cells #[.slice AO nO cO, .slice AR nR cR] 25)) := (Below.refl _ w).alloc (Nat.le_refl _) _
  have BA := hide (Blk.new w 25 #[.slice AO nO cO, .slice AR nR cR])
  have HB0 := hide hB0
  have C1 := hide (fun w' (hb : Below w.heap.size w w') => last_large w' AO AR AF nO cO nR cR nF cF obs roots (hO.below hb) (hR.below hb) hz hn)
  have C4 := hide (fun w' (hb : Below w.heap.size w w') => refCheck_any w' AO AR nO cO nR cR obs roots (hO.below hb) (hR.below hb))
  simp only [hz] at C4
  obtain ⟨a1, a2, a3⟩ := BA.out.rules
  clear hz hB0
  go_enter Try.func6, Try.ntmps6
  go_wp2_with fail
  refine (C1.out _ HB0.out).mono ?_
  rintro e w1 ⟨rfl, hb1⟩
  have HB1 := hide (HB0.out.trans (hb1.mono HB0.out.size))
  have BA1 := hide (BA.out.below_ hb1)
  clear hb1 HB0 BA C1 a1 a2 a3
  obtain ⟨a1, a2, a3⟩ := BA1.out.rules
  go_wp2_with fail
  refine (C4.out _ HB1.out).mono ?_
  rintro e w4 ⟨rfl, hb4⟩
  have HB4 := hide (HB1.out.trans (hb4.mono HB1.out.size))
  clear hb4 HB1 BA1 C4 a1 a2 a3
  go_wp2_with fail
  go_loop [8, 9] (fun s7 s8 => s7 = .int .i64 1 ∧ s8 = .int .i64 0) (fun _ _ => 0)
  case atStart => exact ⟨rfl, rfl⟩
  case round =>
    obtain ⟨rfl, rfl⟩ := hrel
    have h0 : 0 < nF := by omega
    go_wp2_with fail
    go_ret
    exact ⟨rfl, HB4.out⟩
set_option maxRecDepth 100000 in
set_option maxHeartbeats 4000000 in
theorem lastTells_arg (w : World) (AO AR AF : Option Addr) (nO cO nR cR nF cF : Nat) (obs : List Ob) (roots : List Val) (from_ : List Int) (hO : ObsRd w (fun _ => True) AO nO obs) (hR : Rd w (fun _ => True) 2 AR nR (vals roots)) (hF : Rd w (fun _ => True) 1 AF nF (ints from_)) (hz : gcheck nO nR obs roots = 0) (hn : nF ≤ 24) (hfr : ¬ Fine nO from_) :
    Calls Try.prog 6 #[.agg #[.slice AO nO cO, .slice AR nR cR], .slice AF nF cF] w fun e w' => e = .returned (.bool true) ∧ Below w.heap.size w w' := by
  have hS0 := (Sep.nil No w).blkAt 25 #[.slice AO nO cO, .slice AR nR cR] rfl
  have hG := gok_of hO hz
  have hn1 := hG.nO_
  have HS0 := hide hS0
  have C1 := hide (fun w' (hb : Below w.heap.size w w') => last_arg w' AO AR AF nO cO nR cR nF cF obs roots from_ (hO.below hb) (hR.below hb) (hF.below hb) hz hn hfr)
  have C4 := hide (fun w' (hb : Below w.heap.size w w') => refCheck_any w' AO AR nO cO nR cR obs roots (hO.below hb) (hR.below hb))
  simp only [hz] at C4
  obtain ⟨a1, a2, a3, a4⟩ := hS0.rules 0 (g := w.heap.size) (t := 25) rfl
  have HFL := hide (show from_.length = nF by have := hF.1; simpa using this)
  have HFR := hide hfr
  have HFD := hide hF
  clear hz hS0 hfr hG a4 hF
  go_enter Try.func6, Try.ntmps6
  go_wp2_with fail
  refine (C1.out _ HS0.out.below_).mono ?_
  rintro e w1 ⟨rfl, hb1⟩
  have hS1 := HS0.out.below hb1
  obtain ⟨b1, b2, b3, b4⟩ := hS1.rules 0 (g := w.heap.size) (t := 25) rfl
  have HS1 := hide hS1
  clear hb1 HS0 hS1 C1 a1 a2 a3 b4
  go_wp2_with fail
  refine (C4.out _ HS1.out.below_).mono ?_
  rintro e w4 ⟨rfl, hb4⟩
  have HS4 := hide (HS1.out.below hb4)
  clear hb4 HS1 C4 b1 b2 b3
  go_wp2_with fail
  go_loopw [8, 9] (fun s7 s8 wr => ∃ (k : Nat) (b : Bool), k ≤ nF ∧ s8 = .int .i64 k ∧ s7 = .int .i64 (if b then 2 else 0) ∧ Hid (b = false → Fine nO (from_.take k)) ∧ Sep No w wr [blkI w.heap.size 25 #[.slice AO nO cO, .slice AR nR cR]]) (fun _ s _ => nF - (intOf s).toNat)
  case atStart => exact ⟨0, false, by omega, rfl, rfl, fun _ => by rw [List.take_zero]; exact Fine.nil _, HS4.out⟩
  case round =>
    clear HS4
    obtain ⟨k, b, hk, rfl, rfl, HN, hS⟩ := hrel
    by_cases hlt : k < nF
    · cases b with
      | true =>
        have HB := hide hS.below_
        simp only [if_true]
        clear hS HN
        go_wp2_with fail
        go_ret
        exact ⟨rfl, HB.out⟩
      | false =>
        have hkl : k < from_.length := by rw [HFL.out]; exact hlt
        obtain ⟨ad, hA, _, had, hc⟩ := (HFD.out.below hS.below_).at_ hlt
        have e0 := hc _ (ints_get' from_ k hkl)
        have HT := hide (List.take_succ_eq_append_getElem hkl)
        obtain ⟨z, hz⟩ : ∃ z, from_[k] = z := ⟨_, rfl⟩
        rw [hz] at e0 HT
        subst hA
        have HS := hide hS
        obtain ⟨x1, x2, x3, x4⟩ := hS.rules 0 (g := w.heap.size) (t := 25) rfl
        have x5 := x1 0
        have hk0 : (0 : Int) ≤ (k : Int) := by omega
        have hk1 : (k : Int) < (nF : Int) := by omega
        clear hc hz hS x1 x4
        simp only [Bool.false_eq_true, if_false]
        by_cases h1 : z < 0
        · have t1 : decide (z < 0) = true := by simp [h1]
          clear HN
          go_wp2_with fail
          go_quiet (fail)
          go_wp2_with fail
          go_roundw
          case rel => exact ⟨k + 1, true, by omega, by go_num, rfl, (fun h => by cases h), HS.out.drewN _⟩
          case measure => simp [intOf]; omega
        · have t1 : decide (z < 0) = false := by simp only [h1, decide_false]
          by_cases h2 : (nO : Int) ≤ z
          · have t2 : decide ((nO : Int) ≤ z) = true := by simp [h2]
            clear HN
            go_wp2_with fail
            go_quiet (fail)
            go_wp2_with fail
            go_roundw
            case rel => exact ⟨k + 1, true, by omega, by go_num, rfl, (fun h => by cases h), HS.out.drewN _⟩
            case measure => simp [intOf]; omega
          · have t2 : decide ((nO : Int) ≤ z) = false := by simp only [h2, decide_false]
            have HN2 := hide (show Fine nO (from_.take (k + 1)) from by rw [HT.out]; exact (HN.out rfl).snoc (by omega))
            clear HN
            go_wp2_with fail
            go_quiet (fail)
            go_wp2_with fail
            go_roundw
            case rel => exact ⟨k + 1, false, by omega, by go_num, rfl, fun _ => HN2.out, HS.out.drewN _⟩
            case measure => simp [intOf]; omega
    · cases b with
      | true =>
        have HB := hide hS.below_
        simp only [if_true]
        clear hS HN
        go_wp2_with fail
        go_ret
        exact ⟨rfl, HB.out⟩
      | false => exact absurd (by have := HN.out rfl; rwa [List.take_of_length_le (by rw [HFL.out]; omega)] at this) HFR.out
set_option maxRecDepth 100000 in
set_option maxHeartbeats 4000000 in
theorem lastTells_ok (w : World) (AO AR AF : Option Addr) (nO cO nR cR nF cF : Nat) (obs : List Ob) (roots : List Val) (from_ : List Int) (hO : ObsRd w (fun _ => True) AO nO obs) (hR : Rd w (fun _ => True) 2 AR nR (vals roots)) (hF : Rd w (fun _ => True) 1 AF nF (ints from_)) (hz : gcheck nO nR obs roots = 0) (hn : nF ≤ 24) (hfr : Fine nO from_) :
    Calls Try.prog 6 #[.agg #[.slice AO nO cO, .slice AR nR cR], .slice AF nF cF] w fun e w' => e = .returned (.bool true) ∧ Below w.heap.size w w' := by
  have hS0 := (Sep.nil No w).blkAt 25 #[.slice AO nO cO, .slice AR nR cR] rfl
  have hG := gok_of hO hz
  have hn1 := hG.nO_
  have HS0 := hide hS0
  have C1 := hide (fun w' (hb : Below w.heap.size w w') => last_ok w' AO AR AF nO cO nR cR nF cF obs roots from_ (hO.below hb) (hR.below hb) (hF.below hb) hz hn hfr)
  have C4 := hide (fun w' (hb : Below w.heap.size w w') => refCheck_any w' AO AR nO cO nR cR obs roots (hO.below hb) (hR.below hb))
  have C5 := hide (fun w' (hb : Below w.heap.size w w') => refLast_any w' AO AR AF nO cO nR cR nF cF obs roots from_ (hO.below hb) (hR.below hb) (hF.below hb) hG hn hfr)
  simp only [hz] at C4
  have HGL := hide hG.len
  obtain ⟨R1, hR1⟩ : ∃ l, filt (fun j => pB ((j : Int) ∉ reachR (obs.map Ob.fields) roots ∧ LaFst (obs.map Ob.fields) nO (reachR (obs.map Ob.fields) roots) from_ from_ j)) nO = l := ⟨_, rfl⟩
  obtain ⟨R2, hR2⟩ : ∃ l, filt (fun j => pB ((j : Int) ∉ reachR (obs.map Ob.fields) roots ∧ LaSav (obs.map Ob.fields) nO (reachR (obs.map Ob.fields) roots) from_ from_ j)) nO = l := ⟨_, rfl⟩
  simp only [hR1, hR2] at C5
  obtain ⟨a1, a2, a3, a4⟩ := hS0.rules 0 (g := w.heap.size) (t := 25) rfl
  have HFL := hide (show from_.length = nF by have := hF.1; simpa using this)
  have HFR := hide hfr
  have HR1 := hide hR1
  have HR2 := hide hR2
  clear hR1 hR2
  have HFD := hide hF
  clear hz hS0 hfr hG a4 hF
  go_enter Try.func6, Try.ntmps6
  go_wp2_with fail
  refine (C1.out _ HS0.out.below_).mono ?_
  rintro e w1 ⟨A1, n1, c1, B1, m1, d1, L, S, H, rfl, hL, hh, hP1⟩
  obtain ⟨he1, he2⟩ := last_eq HGL.out HFR.out hL hh
  rw [HR1.out] at he1
  rw [HR2.out] at he2
  rw [he1, he2] at hP1
  have hS1 := (Sep.call0 HS0.out hP1).perm (l := [blkI w.heap.size 25 #[.slice AO nO cO, .slice AR nR cR], _, _]) (perm3_ _ _ _)
  obtain ⟨b1, b2, b3, b4⟩ := hS1.rules 0 (g := w.heap.size) (t := 25) rfl
  have HS1 := hide hS1
  clear hP1 HS0 hS1 hh hL he1 he2 C1 a1 a2 a3 b4
  go_wp2_with fail
  refine (C4.out _ HS1.out.below_).mono ?_
  rintro e w4 ⟨rfl, hb4⟩
  have HS4 := hide (HS1.out.below hb4)
  clear hb4 HS1 C4 b1 b2 b3
  go_wp2_with fail
  go_loopw [8, 9] (fun s7 s8 wr => ∃ (k : Nat), k ≤ nF ∧ s8 = .int .i64 k ∧ s7 = .int .i64 0 ∧ Sep No w wr [blkI w.heap.size 25 #[.slice AO nO cO, .slice AR nR cR], rowI 3 1 A1 n1 c1 (ints R1), rowI 3 1 B1 m1 d1 (ints R2)]) (fun _ s _ => nF - (intOf s).toNat)
  case atStart => exact ⟨0, by omega, rfl, rfl, HS4.out⟩
  case round =>
    clear HS4
    obtain ⟨k, hk, rfl, rfl, hS⟩ := hrel
    obtain ⟨x1, x2, x3, x4⟩ := hS.rules 0 (g := w.heap.size) (t := 25) rfl
    have x5 := x1 0
    by_cases hlt : k < nF
    · have hkl : k < from_.length := by rw [HFL.out]; exact hlt
      obtain ⟨ad, hA, _, had, hc⟩ := (HFD.out.below hS.below_).at_ hlt
      have e0 := hc _ (ints_get' from_ k hkl)
      obtain ⟨r0, r1⟩ := HFR.out _ (List.getElem_mem hkl)
      obtain ⟨z, hz⟩ : ∃ z, from_[k] = z := ⟨_, rfl⟩
      rw [hz] at e0 r0 r1
      subst hA
      have HS := hide hS
      have hk0 : (0 : Int) ≤ (k : Int) := by omega
      have hk1 : (k : Int) < (nF : Int) := by omega
      have t1 : decide (z < 0) = false := by simp; omega
      have t2 : decide ((nO : Int) ≤ z) = false := by simp; omega
      clear hc hz hS x1 x4
      go_wp2_with fail
      go_quiet (fail)
      go_wp2_with fail
      go_roundw
      case rel => exact ⟨k + 1, by omega, by go_num, rfl, HS.out.drewN _⟩
      case measure => simp [intOf]; omega
    · obtain rfl : k = nF := by omega
      have HS := hide hS
      clear hS x4
      go_wp2_with fail
      refine (C5.out _ HS.out.below_).mono ?_
      rintro e w6 ⟨A6, n6, c6, B6, m6, d6, rfl, hn6, hm6, hP6⟩
      have hS6 := Sep.call0 HS.out hP6
      have h1 : R1.length = n1 := by have := (hS6.rd_ 3 rfl).1; simpa using this
      have h2 : R1.length = n6 := by have := (hS6.rd_ 0 rfl).1; simpa using this
      have h3 : R2.length = m1 := by have := (hS6.rd_ 4 rfl).1; simpa using this
      have h4 : R2.length = m6 := by have := (hS6.rd_ 1 rfl).1; simpa using this
      obtain rfl : n1 = n6 := by omega
      obtain rfl : m1 = m6 := by omega
      have C7 := hide (ints_same w6 _ _ A1 A6 n1 c1 c6 _ (by omega) (hS6.rd_ 3 rfl) (hS6.rd_ 0 rfl))
      have C8 := hide (fun w7 (hb : Below w6.heap.size w6 w7) => ints_same w7 _ _ B1 B6 m1 d1 d6 _ (by omega) ((hS6.rd_ 4 rfl).below hb) ((hS6.rd_ 1 rfl).below hb))
      have HB6 := hide hS6.below_
      clear hP6 hS6 h1 h2 h3 h4 HS x1 x2 x3 x5 C5
      go_wp2_with fail
      refine C7.out.mono ?_
      rintro e w7 ⟨rfl, hb7⟩
      have HB7 := hide (HB6.out.trans (hb7.mono HB6.out.size))
      have C9 := hide (C8.out _ hb7)
      clear hb7 C8 C7
      go_wp2_with fail
      refine C9.out.mono ?_
      rintro e w8 ⟨rfl, hb8⟩
      go_wp2_with fail
      go_ret
      exact ⟨rfl, HB7.out.trans (hb8.mono HB7.out.size)⟩
theorem lastTells_walk (w : World) (AO AR AF : Option Addr) (nO cO nR cR nF cF : Nat) (obs : List Ob) (roots : List Val) (from_ : List Int) (hO : ObsRd w (fun _ => True) AO nO obs) (hR : Rd w (fun _ => True) 2 AR nR (vals roots)) (hF : Rd w (fun _ => True) 1 AF nF (ints from_)) (hnF : nF ≤ 9223372036854775807) :
    Calls Try.prog 6 #[.agg #[.slice AO nO cO, .slice AR nR cR], .slice AF nF cF] w fun e w' => e = .returned (.bool true) ∧ Below w.heap.size w w' := by
  by_cases hz : gcheck nO nR obs roots = 0
  · by_cases hn : nF ≤ 24
    · by_cases hf : Fine nO from_
      · exact lastTells_ok w AO AR AF nO cO nR cR nF cF obs roots from_ hO hR hF hz hn hf
      · exact lastTells_arg w AO AR AF nO cO nR cR nF cF obs roots from_ hO hR hF hz hn hf
    · exact lastTells_large w AO AR AF nO cO nR cR nF cF obs roots hO hR hz (by omega) hnF
  · exact lastTells_no w AO AR AF nO cO nR cR nF cF obs roots hO hR hz hnF
end Go.Proofs.Ytaajkldhnjoicaa
