/- Weak references: the reference's Kept. Weak references: what is kept of a graph. Weak references: the program's Kept; a copy of an object's fields. -/
import Derived.Test.YtaajkldhnjoicaaGWeakTells1
import Derived.Test.YtaajkldhnjoicaaGTrialTells2
set_option linter.unusedSimpArgs false
set_option linter.unusedVariables false
namespace Go.Proofs.Ytaajkldhnjoicaa
open Go.RowKit Go.Shelf

theorem bp_setb {b : List Bool} {z : Nat} (y : Bool) (hz : z < b.length) (x : Nat) : bp (b.set z y) x = if x = z then y else bp b x := by
  unfold bp
  rw [List.getD_eq_getElem?_getD, List.getD_eq_getElem?_getD, List.getElem?_set]
  by_cases e : z = x
  · subst e
    rw [if_pos rfl, if_pos rfl, if_pos hz]
    rfl
  · rw [if_neg e, if_neg (fun h => e h.symm)]

set_option maxRecDepth 100000 in
set_option maxHeartbeats 16000000 in
theorem refKept_any (w : World) (AO AR AK : Option Addr) (nO cO nR cR cK : Nat) (obs : List Ob) (roots : List Val) (ks : List Int) (gs : List (List Val)) (h3 : obs.map Ob.fields = gs) (hO : ObsRd w (fun _ => True) AO nO obs) (hR : Rd w (fun _ => True) 2 AR nR (vals roots)) (hK : Rd w (fun _ => True) 1 AK nO (ints ks)) (hG : GOk nO nR obs roots) :
    Calls Try.prog 51 #[.agg #[.slice AO nO cO, .slice AR nR cR], .slice AK nO cK] w fun e w' => ∃ A c b, e = .returned (.slice A nO c) ∧ Kpt gs ks roots nO (bp b) ∧ b.length = nO ∧ Sep No w w' [rowI 4 1 A nO c (bls b)] := by
  have hn := hG.nO_
  have hv : ∀ x : Int, ValsOk nO (fieldsI gs x) := fun x => by have := fieldsI_ok (x := x) hG.vg; rw [hG.len, h3] at this; exact this
  have hvr : ValsOk nO roots := by have := hG.vr; rw [hG.len] at this; exact this
  have CP := hide (fun (w' : World) (hb : Below w.heap.size w w') (A : Option Addr) (c : Nat) (b : List Bool) (i at_ : Nat) (hT : Rd w' (fun _ => True) 1 A nO (bls b)) (hi : i < nO) (hat : at_ < (fieldsI gs (i : Int)).length) => refKeeps_any w' AO AR AK A nO cO nR cR cK c obs ks b gs i at_ h3 hG.fl (hO.below hb) (hK.below hb) hT hn hi hat hv)
  have hS0 := (Sep.nil No w).blkAt 25 #[.slice AO nO cO, .slice AR nR cR] rfl
  obtain ⟨a1, a2, a3, a4⟩ := hS0.rules 0 (g := w.heap.size) (t := 25) rfl
  have a5 := (a1 0).trans (show _ = some (.slice AO nO cO) from rfl)
  have a6 := (a1 1).trans (show _ = some (.slice AR nR cR) from rfl)
  have HS0 := hide hS0
  have HNR := hide hG.nR_
  have HFL := hide hG.fl
  have HV := hide hv
  have HVR := hide hvr
  have HO := hide hO
  have HR := hide hR
  have H3 := hide h3
  clear hS0 a1 a4 hO hR hK hG h3 hv hvr
  go_enter Try.func51, Try.ntmps51
  go_wp2_with (first
    | (at_make
       refine wpList_make rfl (.tmp 15) (.tmp 15) 75 rfl HS0.out Try.underlying75 bInfo (by omega) .i64 .i64 nO rfl rfl (by omega) ?_
       intro w1 hS1 hb1
       rw [bMade, World.size_alloc] at hS1
       (have HS1 := hide hS1)
       clear hS1 hb1))
  clear HS0 a2 a3 a5 a6
  go_loopw [7] (fun s wr => ∃ (k : Nat) (b : List Bool), k ≤ nO ∧ s = .int .i64 k ∧ Hid (b.length = nO) ∧ Hid (∀ j : Nat, j < k → (bp b j = true ↔ (true, (j : Int)) ∈ roots)) ∧ Sep No w wr [blkI w.heap.size 25 #[.slice AO nO cO, .slice AR nR cR], rowI 4 1 (some ⟨w.heap.size + 1, 0, none⟩) nO nO (bls b)]) (fun s _ => nO - (intOf s).toNat)
  case atStart => exact ⟨0, _, by omega, rfl, List.length_replicate, fun j hj => by omega, HS1.out⟩
  case round =>
    clear HS1
    obtain ⟨k, b, hk, rfl, HBL, HI, hS⟩ := hrel
    obtain ⟨x1, x2, x3, x4⟩ := hS.rules 0 (g := w.heap.size) (t := 25) rfl
    have x5 := (x1 0).trans (show _ = some (.slice AO nO cO) from rfl)
    have x6 := (x1 1).trans (show _ = some (.slice AR nR cR) from rfl)
    by_cases hlt : k < nO
    · have C := refers_any wr AR nR cR roots (k : Int) (by have := HNR.out; omega) (HR.out.below hS.below_)
      have hrf := refers_iff roots (k : Int)
      obtain ⟨y, hy⟩ : ∃ y, refers roots (k : Int) = y := ⟨_, rfl⟩
      rw [hy] at C hrf
      have HC := hide C
      have HI3 := hide (show ∀ j : Nat, j < k + 1 → (bp (b.set k y) j = true ↔ (true, (j : Int)) ∈ roots) from fun j hj => by
        rw [bp_setb y (by rw [HBL.out]; exact hlt)]
        by_cases e : j = k
        · subst e; rw [if_pos rfl]; exact hrf
        · rw [if_neg e]; exact HI.out j (by omega))
      have HBL3 := hide (show (b.set k y).length = nO by rw [List.length_set]; exact HBL.out)
      have HS := hide hS
      clear hS C hrf hy HI HBL x1 x4
      go_wp2_with fail
      refine HC.out.mono ?_
      rintro e w5 ⟨rfl, hb5⟩
      have hS5 := HS.out.below hb5
      obtain ⟨f1, f2⟩ := bls_cellAt (hS5.get 1 rfl) k hlt
      obtain ⟨y2, hy2⟩ : ∃ y, b.getD k false = y := ⟨_, rfl⟩
      rw [hy2] at f1
      have hsg := hS5.hi 1 rfl (w.heap.size + 1) rfl
      have hS3 := hS5.store 1 (g := w.heap.size + 1) rfl k (.bool y)
      rw [bls_set] at hS3
      have HS3 := hide hS3
      clear hS5 hS3 hb5 HS HC x2 x3 x5 x6 hy2
      go_wp2_with fail
      go_roundw
      case rel => exact ⟨k + 1, _, by omega, by go_num, HBL3, HI3, HS3.out⟩
      case measure => simp [intOf]; omega
    · obtain rfl : k = nO := by omega
      have HI0 := hide (RfI.start (gs := gs) (ks := ks) HBL.out HVR.out HI.out)
      have HS := hide hS
      clear hS HI HBL x1 x4 x2 x3 x5 x6
      go_wp2_with fail
      go_loopw [8] (fun s wr => ∃ (t : Nat) (b : List Bool), t ≤ k ∧ s = .int .i64 t ∧ Hid (RfI gs ks roots k t b) ∧ Sep No w wr [blkI w.heap.size 25 #[.slice AO k cO, .slice AR nR cR], rowI 4 1 (some ⟨w.heap.size + 1, 0, none⟩) k k (bls b)]) (fun s _ => k - (intOf s).toNat)
      case atStart => exact ⟨0, b, by omega, rfl, HI0, HS.out⟩
      case round =>
        clear HS HI0
        obtain ⟨t, b, ht, rfl, HI, hS⟩ := hrel
        by_cases hlt : t < k
        · have HJ0 := hide HI.out.in_
          have HS := hide hS
          clear hS HI
          go_wp2_with fail
          go_loopw [9] (fun s wr => ∃ (i : Nat) (b : List Bool), i ≤ k ∧ s = .int .i64 i ∧ Hid (RfJ gs ks roots k t i 0 b) ∧ Sep No w wr [blkI w.heap.size 25 #[.slice AO k cO, .slice AR nR cR], rowI 4 1 (some ⟨w.heap.size + 1, 0, none⟩) k k (bls b)]) (fun s _ => k - (intOf s).toNat)
          case atStart => exact ⟨0, b, by omega, rfl, HJ0, HS.out⟩
          case round =>
            clear HS HJ0
            obtain ⟨i, b, hi, rfl, HJ, hS⟩ := hrel
            by_cases hli : i < k
            · obtain ⟨x1, x2, x3, x4⟩ := hS.rules 0 (g := w.heap.size) (t := 25) rfl
              have x5 := (x1 0).trans (show _ = some (.slice AO k cO) from rfl)
              obtain ⟨ad, o, hAO, had, e0, hrd, hfi, ho4, hofl⟩ := ob_at2 HO.out hS.below_ H3.out HFL.out hli
              have HFI := hide hfi
              have HOL := hide hofl
              have HRD := hide hrd
              subst hAO
              have HS := hide hS
              clear hS hrd hfi x1 x4 hofl
              go_wp2_with fail
              go_loopw [46] (fun s wr => ∃ (K : Nat) (b : List Bool), K ≤ o.n ∧ s = .int .i64 K ∧ Hid (RfJ gs ks roots k t i K b) ∧ Sep No w wr [blkI w.heap.size 25 #[.slice (some ad) k cO, .slice AR nR cR], rowI 4 1 (some ⟨w.heap.size + 1, 0, none⟩) k k (bls b)]) (fun s _ => o.n - (intOf s).toNat)
              case atStart => exact ⟨0, b, by omega, rfl, HJ, HS.out⟩
              case round =>
                clear HS HJ x2 x3 x5 e0 had
                obtain ⟨K, b, hK, rfl, HJ, hS⟩ := hrel
                by_cases hlK : K < o.n
                · have hkl : K < o.fields.length := by rw [HOL.out]; exact hlK
                  obtain ⟨fd, hA, _, hfd, hc, hd⟩ := (HRD.out.below hS.below_).atN hlK
                  obtain ⟨v0, v1⟩ := vals_at o.fields K hkl
                  have e0 := hc _ v0
                  have e1 := hd 0 _ v1
                  have hgv : (fieldsI gs (i : Int))[K]? = some o.fields[K] := by rw [HFI.out]; exact List.getElem?_eq_getElem hkl
                  have hvv := HV.out (i : Int) o.fields[K] (by rw [HFI.out]; exact List.getElem_mem hkl)
                  obtain ⟨x, hx⟩ : ∃ x, o.fields[K] = x := ⟨_, rfl⟩
                  rw [hx] at e0 e1 hgv hvv
                  obtain ⟨bv, m⟩ := x
                  dsimp only at e0 e1 hvv
                  rw [hA]
                  have HA := hide hA
                  have hSb := hS.alloc (.cells #[.bool bv, .int .i64 m] 86)
                  obtain ⟨f1, f2⟩ := bls_cellAt (hSb.get 1 rfl) i hli
                  obtain ⟨x1, x2, x3, x4⟩ := hSb.rules 0 (g := w.heap.size) (t := 25) rfl
                  have x5 := (x1 0).trans (show _ = some (.slice (some ad) k cO) from rfl)
                  have x6 := (x1 1).trans (show _ = some (.slice AR nR cR) from rfl)
                  obtain ⟨y, hy⟩ : ∃ y, b.getD i false = y := ⟨_, rfl⟩
                  rw [hy] at f1
                  have HY := hide (show bp b i = y from hy)
                  have C := hide (CP.out _ hSb.below_ (some ⟨w.heap.size + 1, 0, none⟩) k b i K (hSb.rd_ 1 rfl) hli (by rw [HFI.out]; exact hkl))
                  have HSB := hide hSb
                  have HGV := hide hgv
                  have HVV := hide hvv
                  clear hS hSb hc hd v0 v1 hx hgv hvv x1 x4 hy hA
                  cases y with
                  | false =>
                    have HJ2 := hide (HJ.out.skip (fun h => by rw [HY.out] at h; cases h))
                    clear HJ C
                    go_wp2_with fail
                    go_roundw
                    case rel => exact ⟨K + 1, b, by omega, by go_num, HJ2, HSB.out⟩
                    case measure => simp [intOf]; omega
                  | true =>
                    cases bv with
                    | false =>
                      have HJ2 := hide (HJ.out.skip (fun _ x hx _ => by rw [HGV.out] at hx; simp at hx))
                      clear HJ C
                      go_wp2_with fail
                      go_roundw
                      case rel => exact ⟨K + 1, b, by omega, by go_num, HJ2, HSB.out⟩
                      case measure => simp [intOf]; omega
                    | true =>
                      obtain ⟨m0, m1⟩ := HVV.out rfl
                      obtain ⟨z, rfl⟩ := int_nat m0
                      have hz : z < k := by omega
                      obtain ⟨q, hq⟩ : ∃ q, keepsB ks (bp b) i K (fieldsI gs (i : Int)) = q := ⟨_, rfl⟩
                      rw [hq] at C
                      have HQ := hide hq
                      clear hq m0 m1
                      cases q with
                      | false =>
                        have HJ2 := hide (HJ.out.skip (fun _ x hx h => by rw [HQ.out] at h; cases h))
                        clear HJ
                        go_wp2_with fail
                        refine C.out.mono ?_
                        rintro e w5 ⟨rfl, hb5⟩
                        have HS5 := hide (HSB.out.below hb5)
                        clear HSB hb5 C f1 f2 x2 x3 x5 x6 e0 e1 hfd
                        go_wp2_with fail
                        go_roundw
                        case rel => exact ⟨K + 1, b, by omega, by go_num, HJ2, HS5.out⟩
                        case measure => simp [intOf]; omega
                      | true =>
                        have HJ2 := hide (HJ.out.mark HV.out hli HY.out HGV.out HQ.out)
                        clear HJ
                        have hsb : wr.heap.size < (wr.alloc (.cells #[.bool true, .int .i64 z] 86)).heap.size := by simp
                        have BX := (Blk.new wr 86 #[.bool true, .int .i64 z])
                        go_wp2_with fail
                        refine C.out.mono ?_
                        rintro e w5 ⟨rfl, hb5⟩
                        obtain ⟨y1, y2, y3⟩ := (BX.below_ hb5).rules
                        have y5 := (y1 1).trans (show _ = some (.int .i64 z) from rfl)
                        have hS5 := HSB.out.below hb5
                        obtain ⟨g1, g2⟩ := bls_cellAt (hS5.get 1 rfl) z hz
                        obtain ⟨y6, hy6⟩ : ∃ y, b.getD z false = y := ⟨_, rfl⟩
                        rw [hy6] at g1
                        have hsg := hS5.hi 1 rfl (w.heap.size + 1) rfl
                        have hS3 := hS5.store 1 (g := w.heap.size + 1) rfl z (.bool true)
                        rw [bls_set] at hS3
                        have HS3 := hide hS3
                        clear hS5 hS3 HSB hb5 C f1 f2 x2 x3 x5 x6 e0 e1 hfd y1 hy6 BX hsb
                        go_wp2_with fail
                        go_roundw
                        case rel => exact ⟨K + 1, _, by omega, by go_num, HJ2, HS3.out⟩
                        case measure => simp [intOf]; omega
                · obtain rfl : K = o.n := by omega
                  have HJ2 := hide (show RfJ gs ks roots k t (i + 1) 0 b from RfJ.next (by rw [HFI.out, HOL.out]; exact HJ.out))
                  have HS := hide hS
                  clear hS HJ
                  go_wp2_with fail
                  go_roundw
                  case rel => exact ⟨i + 1, b, by omega, by go_num, HJ2, HS.out⟩
                  case measure => simp [intOf]; omega
            · obtain rfl : i = k := by omega
              have HI2 := hide HJ.out.out
              have HS := hide hS
              clear hS HJ
              go_wp2_with fail
              go_roundw
              case rel => exact ⟨t + 1, b, by omega, by go_num, HI2, HS.out⟩
              case measure => simp [intOf]; omega
        · obtain rfl : t = k := by omega
          have HF := hide (HI.out.done HV.out)
          have HBL := hide HI.out.len
          have HS := hide hS
          clear hS HI
          go_wp2_with fail
          go_ret
          exact ⟨_, _, b, rfl, HF.out, HBL.out, HS.out.sub (by simp)⟩
end Go.Proofs.Ytaajkldhnjoicaa

namespace Go.Proofs.Ytaajkldhnjoicaa
open Go.RowKit Go.Shelf

theorem bp_rep (n x : Nat) : bp (List.replicate n false) x = false := by
  unfold bp
  rw [List.getD_eq_getElem?_getD, List.getElem?_replicate]
  split <;> rfl
theorem wkErr_zero {nO nR nK : Nat} {obs : List Ob} {roots : List Val} {ks : List Int} (h : wkErr nO nR nK obs roots ks = 0) : gcheck nO nR obs roots = 0 ∧ nK = nO ∧ ks.any badK = false := by
  unfold wkErr at h
  by_cases h1 : gcheck nO nR obs roots = 0
  · rw [if_neg (fun hh => hh h1)] at h
    by_cases h2 : nK = nO
    · rw [if_neg (fun hh => hh h2)] at h
      refine ⟨h1, h2, ?_⟩
      cases hb : ks.any badK
      · rfl
      · rw [hb] at h; simp at h
    · rw [if_pos h2] at h; omega
  · rw [if_pos h1] at h; exact absurd h h1
/-- The keeper's first memory. -/
theorem wk_first {W w1 : World} {n gb : Nat} {M C : Array Value} {i : Item} (hS : Sep No W w1 [i]) (hM : M.toList = bls (List.replicate n false)) (hn : n ≤ 1000) (hg : w1.heap.size = gb) :
    Sep No W ((w1.alloc (.cells M 4)).alloc (.cells C 175)) [wkIt gb n (List.replicate n false), i, blkI (gb + 1) 175 C] := by
  subst hg
  have hMs : M.size = n * 1 := by have := congrArg List.length hM; simp [bls] at this; omega
  have r1 := rowI_of_blk (Blk.new w1 4 M) hMs (by unfold maxLen; omega)
  rw [hM] at r1
  have h1 := (hS.alloc (.cells M 4)).cons (wkIt w1.heap.size n (List.replicate n false)) r1 (fun g hg => by rw [wkIt_fp.1 hg]; exact .inr hS.bel.size) (fun j hj g hg hg' => by
    rw [wkIt_fp.1 hg] at hg'
    obtain rfl : j = i := by simpa using hj
    have := j.dom w1 (hS.all j (by simp)) _ hg'
    omega)
  exact h1.blkAt 175 C (by simp)

theorem wkM_of {w w' : World} {gb Bt n : Nat} {b : List Bool} {AO AR AK : Option Addr} {nO cO nR cR cK : Nat} {obs : List Ob} {ks : List Int} {g0 : Item} {items : List Item} (hS : Sep No w w' (wkIt gb n b :: g0 :: blkI Bt 175 (wkCells gb AO AR AK nO cO nR cR cK) :: items)) (hO : ObsRd w (fun _ => True) AO nO obs) (hK : Rd w (fun _ => True) 1 AK nO (ints ks)) : WkM Bt gb AO AR AK nO cO nR cR cK obs ks w' := by
  have h3 := (hS.lo 0 rfl gb (wkIt_fp.2 rfl)).resolve_left (fun h => h)
  refine ⟨((hO.more (D' := fun k => k < w.heap.size) (fun k hk _ => hk)).below hS.below_).more (fun k _ hk => by omega), ((hK.more (D' := fun k => k < w.heap.size) (fun k hk _ => hk)).below hS.below_).more (fun k _ hk => by omega), hS.get 2 rfl, fun e => ?_⟩
  exact hS.other (a := 0) (b := 2) rfl rfl (by omega) gb (wkIt_fp.2 rfl) e.symm
theorem rd_far {w w' : World} {gb n size m : Nat} {b : List Bool} {A : Option Addr} {xs : List Value} {items : List Item} (hS : Sep No w w' (wkIt gb n b :: items)) (hR : Rd w (fun _ => True) size A m xs) : Rd w' (fun k => k ≠ gb) size A m xs := by
  have h3 := (hS.lo 0 rfl gb (wkIt_fp.2 rfl)).resolve_left (fun h => h)
  exact ((hR.more (D' := fun k => k < w.heap.size) (fun k hk _ => hk)).below hS.below_).more (fun k _ hk => by omega)

set_option maxRecDepth 100000 in
set_option maxHeartbeats 8000000 in
theorem wopen_ok (w : World) (AO AR AK : Option Addr) (nO cO nR cR cK : Nat) (obs : List Ob) (roots : List Val) (ks : List Int) (gs : List (List Val)) (h3 : obs.map Ob.fields = gs) (hcp : Caps obs) (hO : ObsRd w (fun _ => True) AO nO obs) (hR : Rd w (fun _ => True) 2 AR nR (vals roots)) (hK : Rd w (fun _ => True) 1 AK nO (ints ks)) (hz : wkErr nO nR nO obs roots ks = 0) :
    Calls Try.prog 102 #[.agg #[.slice AO nO cO, .slice AR nR cR], .slice AK nO cK] w fun e w' => ∃ gb Bt b, e = .returned (.tuple #[.pointer (some ⟨Bt, 0, none⟩), .int .i64 0]) ∧ Kpt gs ks roots nO (bp b) ∧ b.length = nO ∧ Sep No w w' [wkIt gb nO b, blkI Bt 175 (wkCells gb AO AR AK nO cO nR cR cK)] := by
  obtain ⟨hz1, _, hz2⟩ := wkErr_zero hz
  have hG := gok_of hO hz1
  have hn := hG.nO_
  have hkl : ks.length = nO := by have := hK.1; simpa using this
  have hv : ∀ x : Int, ValsOk nO (fieldsI gs x) := fun x => by have := fieldsI_ok (x := x) hG.vg; rw [hG.len, h3] at this; exact this
  have hvr : ValsOk nO roots := by have := hG.vr; rw [hG.len] at this; exact this
  have hS0 := (Sep.nil No w).blkAt 25 #[.slice AO nO cO, .slice AR nR cR] rfl
  obtain ⟨a1, a2, a3, a4⟩ := hS0.rules 0 (g := w.heap.size) (t := 25) rfl
  have C1 := hide (graphCheck_any _ AO AR nO cO nR cR obs roots (hO.below hS0.below_) (hR.below hS0.below_))
  rw [hz1] at C1
  have C2 := hide (fun w' hb => weakContains_any w' AK nO cK ks (by omega) (hK.below hb))
  simp only [hz2] at C2
  have CK := hide (fun Bt gb => wkeep_any Bt gb AO AR AK nO cO nR cR cK obs ks gs roots h3 hG.fl hcp hn hkl hv)
  have CS := hide (fun (w' : World) (Bt gb : Nat) (hM : WkM Bt gb AO AR AK nO cO nR cR cK obs ks w') (bs : List Bool) (hP : (wkIt gb nO bs).P w') (z : Nat) (hz : z < nO) => strong_any w' Bt gb AO AR AK nO cO nR cR cK obs ks bs z gs h3 hG.fl hcp hM hP hn hz hkl hv)
  have HNR := hide hG.nR_
  obtain ⟨M, hM, hmk⟩ := bool_make nO (by omega)
  have HMM := hide hM
  have HV := hide hv
  have HVR := hide hvr
  have HO := hide hO
  have HR := hide hR
  have HK := hide hK
  have HS0 := hide hS0
  clear hz1 hz2 hz hG hkl hv hvr hS0 a4 hO hR hK hM h3 hcp
  go_enter Try.func102, Try.ntmps102
  go_wp2_with fail
  refine C1.out.mono ?_
  rintro e w1 ⟨rfl, hb1⟩
  have hS1 := HS0.out.below hb1
  obtain ⟨b1, b2, b3, b4⟩ := hS1.rules 0 (g := w.heap.size) (t := 25) rfl
  have b5 := (b1 0).trans (show _ = some (.slice AO nO cO) from rfl)
  have b6 := (b1 1).trans (show _ = some (.slice AR nR cR) from rfl)
  have C3 := hide (C2.out w1 hS1.below_)
  have HS1 := hide hS1
  clear hb1 hS1 HS0 C1 C2 a1 a2 a3 b1 b4
  go_wp2_with fail
  refine C3.out.mono ?_
  rintro e w2 ⟨rfl, rfl⟩
  go_wp2_with fail
  have q0 : w.heap.size ≠ w2.heap.size := by omega
  go_region_held3 (fun w' => w'.cell? ⟨w.heap.size, 0, none⟩ = some (.slice AO nO cO) ∧ w'.cell? ⟨w.heap.size, 1, none⟩ = some (.slice AR nR cR)) (simp (config := { maxDischargeDepth := 8 }) [*, World.cell?_alloc_some]) (fail)
  have hS2 := (wk_first (C := wkCells w2.heap.size AO AR AK nO cO nR cR cK) HS1.out HMM.out (by omega) rfl).drew
  unfold wkCells at hS2
  obtain ⟨gb, hgb⟩ : ∃ gb, w2.heap.size = gb := ⟨_, rfl⟩
  obtain ⟨W, hW⟩ : ∃ W, ((w2.alloc (.cells M 4)).alloc (.cells #[.slice AO nO cO, .slice AR nR cR, .slice AK nO cK, .slice (some ⟨w2.heap.size, 0, none⟩) nO nO] 175)).drew = W := ⟨_, rfl⟩
  rw [hW] at hS2 ⊢
  rw [hgb] at hS2 ⊢
  have HS2 := hide hS2
  obtain ⟨b1', b2', b3', b4'⟩ := hS2.rules 1 (g := w.heap.size) (t := 25) rfl
  have b5' := (b1' 0).trans (show _ = some (.slice AO nO cO) from rfl)
  have b6' := (b1' 1).trans (show _ = some (.slice AR nR cR) from rfl)
  have C4 := hide (CK.out (gb + 1) gb 24 W AR nR cR roots (List.replicate nO false) (wkM_of hS2 HO.out HK.out) (hS2.get 0 rfl) List.length_replicate (fun j _ h => by rw [bp_rep] at h; cases h) (by have := HNR.out; omega) HVR.out (rd_far hS2 HR.out) (fun y hy => Kep.root _ (by
    obtain ⟨h0, _⟩ := HVR.out _ (tgts_mem.1 hy) rfl
    dsimp only at h0
    rw [show ((y.toNat : Nat) : Int) = y from by omega]
    exact tgts_mem.1 hy)) (by have := un_le (n := nO) (List.replicate nO false); omega))
  clear hS2 hW hgb q0 C3 HS1 b2 b3 b5 b6 b1' b4' hmk HMM
  go_wp2_with fail
  refine C4.out.mono ?_
  rintro e w3 ⟨b, mo, rfl, hk1, hP3⟩
  have HL3 := hide hk1.len
  have HS3 := hide (HS2.out.call 0 rfl hP3)
  have HSD := hide hk1.snd
  have HRT := hide (show ∀ x : Nat, (true, (x : Int)) ∈ roots → bp b x = true from fun x hx => hk1.seen (x : Int) (tgts_mem.2 hx))
  have HKP := hide (show true = false → Kpt gs ks roots nO (bp b) from fun h => by cases h)
  clear HS2 hk1 hP3 C4 b2' b3' b5' b6'
  go_wp2_with fail
  go_loopg [8] (2 * (un nO b).toNat + 1) (fun q s8 wr => ∃ (b : List Bool) (mo : Bool), q = 2 * (un nO b).toNat + (if mo = true then 1 else 0) ∧ s8 = .bool mo ∧ Hid (b.length = nO) ∧ Hid (Sound gs ks roots nO (bp b)) ∧ Hid (∀ x : Nat, (true, (x : Int)) ∈ roots → bp b x = true) ∧ Hid (mo = false → Kpt gs ks roots nO (bp b)) ∧ Sep No w wr [wkIt gb nO b, blkI w.heap.size 25 #[.slice AO nO cO, .slice AR nR cR], blkI (gb + 1) 175 (wkCells gb AO AR AK nO cO nR cR cK)])
  case atStart => exact ⟨b, true, rfl, rfl, HL3, HSD, HRT, HKP, HS3.out⟩
  case round =>
    clear HS3 HL3 HSD HRT HKP
    obtain ⟨b, mo, hgk, rfl, HL, HSD, HRT, HKP, hS⟩ := hrel
    cases mo with
    | false =>
      have HS := hide hS
      have HF := hide (HKP.out rfl)
      clear hS HKP hgk
      go_wp2_with fail
      go_ret2
      exact ⟨gb, gb + 1, b, rfl, HF.out, HL.out, HS.out.sub (by simp)⟩
    | true =>
      have HGK := hide hgk
      obtain ⟨x1, x2, x3, x4⟩ := hS.rules 1 (g := w.heap.size) (t := 25) rfl
      have x5 := (x1 0).trans (show _ = some (.slice AO nO cO) from rfl)
      have HS := hide hS
      have HI0 := hide (OpI.turn HL.out HSD.out HRT.out)
      clear hS hgk HKP x1 x4 HL HSD HRT
      go_wp2_with fail
      go_loopw [8, 39] (fun s8 s wr => ∃ (k : Nat) (b2 : List Bool) (m : Bool), k ≤ nO ∧ s = .int .i64 k ∧ s8 = .bool m ∧ Hid (OpI gs ks roots nO k b b2 m) ∧ Sep No w wr [wkIt gb nO b2, blkI w.heap.size 25 #[.slice AO nO cO, .slice AR nR cR], blkI (gb + 1) 175 (wkCells gb AO AR AK nO cO nR cR cK)]) (fun _ s _ => nO - (intOf s).toNat)
      case atStart => exact ⟨0, b, false, by omega, rfl, rfl, HI0, HS.out⟩
      case round =>
        clear HS HI0 x2 x3 x5
        obtain ⟨k, b2, m, hk, rfl, rfl, HI, hS⟩ := hrel
        by_cases hlt : k < nO
        · have hM := wkM_of hS HO.out HK.out
          obtain ⟨c1, c2, c3⟩ := hM.b.rules
          have c4 := (c1 3).trans (show _ = some (.slice (some ⟨gb, 0, none⟩) nO nO) from rfl)
          obtain ⟨f1, f2⟩ := bls_cellAt (hS.get 0 rfl) k hlt
          obtain ⟨y, hy⟩ : ∃ y, b2.getD k false = y := ⟨_, rfl⟩
          rw [hy] at f1
          cases y with
          | false =>
            have HI2 := hide (HI.out.skip hy)
            have HS := hide hS
            clear HI hM hS hy c1
            go_wp2_with fail
            go_roundw
            case rel => exact ⟨k + 1, b2, m, by omega, by go_num, rfl, HI2, HS.out⟩
            case measure => simp [intOf]; omega
          | true =>
            have C5 := hide (CS.out wr (gb + 1) gb hM b2 (hS.get 0 rfl) k hlt)
            have HM := hide hM
            have HKK := hide (HI.out.snd k hlt hy)
            have HS := hide hS
            clear hM hS hy c1
            go_wp2_with fail
            refine C5.out.mono ?_
            rintro e w5 ⟨A5, m5, c5, rfl, hm5, hr5, hb5⟩
            have hS5 := HS.out.below hb5
            have C6 := hide (CK.out (gb + 1) gb 24 w5 A5 m5 c5 _ b2 (HM.out.below hb5) (hS5.get 0 rfl) HI.out.len HI.out.snd (by omega) (strong_ok HV.out k) hr5 (HI.out.snd.strong HV.out HKK.out) (by have := un_le (n := nO) b2; omega))
            have HS5 := hide hS5
            clear hm5 hr5 hb5 hS5 C5 HS HM f1 f2 c2 c3 c4
            go_wp2_with fail
            refine C6.out.mono ?_
            rintro e w6 ⟨b3, m3, rfl, hk3, hP6⟩
            have HI2 := hide (HI.out.step HVR.out hk3)
            have HS6 := hide (HS5.out.call 0 rfl hP6)
            clear hk3 hP6 HS5 C6 HI
            cases m3 with
            | true =>
              rw [Bool.or_true] at HI2
              go_wp2_with fail
              go_roundw
              case rel => exact ⟨k + 1, b3, true, by omega, by go_num, rfl, HI2, HS6.out⟩
              case measure => simp [intOf]; omega
            | false =>
              rw [Bool.or_false] at HI2
              go_wp2_with fail
              go_roundw
              case rel => exact ⟨k + 1, b3, m, by omega, by go_num, rfl, HI2, HS6.out⟩
              case measure => simp [intOf]; omega
        · obtain rfl : k = nO := by omega
          have HS := hide hS
          clear hS
          go_wp2_with fail
          go_roundg (2 * (un k b2).toNat + (if m = true then 1 else 0))
          case measure =>
            rw [HGK.out]
            have h1 := HI.out.le
            have h2 := un_nonneg (n := k) b2
            cases m with
            | false => simp; omega
            | true => have := HI.out.yes rfl; simp; omega
          case rel => exact ⟨b2, m, rfl, rfl, HI.out.len, HI.out.snd, HI.out.root, (fun h => by subst h; exact HI.out.done), HS.out⟩
end Go.Proofs.Ytaajkldhnjoicaa

namespace Go.Proofs.Ytaajkldhnjoicaa
open Go.RowKit Go.Shelf

section
variable (w : World) (AO AR AK : Option Addr) (nO cO nR cR nK cK : Nat) (obs : List Ob) (roots : List Val) (ks : List Int)
set_option maxRecDepth 100000 in
set_option maxHeartbeats 4000000 in
theorem wkept_bad (hO : ObsRd w (fun _ => True) AO nO obs) (hR : Rd w (fun _ => True) 2 AR nR (vals roots)) (hK : Rd w (fun _ => True) 1 AK nK (ints ks)) (hz : wkErr nO nR nK obs roots ks ≠ 0) :
    Calls Try.prog 47 #[.agg #[.slice AO nO cO, .slice AR nR cR], .slice AK nK cK] w fun e w' => e = .returned (.tuple #[.slice none 0 0, .int .i64 (wkErr nO nR nK obs roots ks)]) ∧ Below w.heap.size w w' := by
  have hS0 := (Sep.nil No w).blkAt 25 #[.slice AO nO cO, .slice AR nR cR] rfl
  obtain ⟨a1, a2, a3, a4⟩ := hS0.rules 0 (g := w.heap.size) (t := 25) rfl
  have C1 := hide (wopen_bad _ AO AR AK nO cO nR cR nK cK obs roots ks (hO.below hS0.below_) (hR.below hS0.below_) (hK.below hS0.below_) hz)
  obtain ⟨x, hx⟩ : ∃ x, wkErr nO nR nK obs roots ks = x := ⟨_, rfl⟩
  rw [hx] at C1 hz ⊢
  have y1 : (x != 0) = true := by rw [bne_iff_ne]; exact hz
  have HS0 := hide hS0
  clear hz hx hS0 a4 hO hR hK
  go_enter Try.func47, Try.ntmps47
  go_wp2_with fail
  refine C1.out.mono ?_
  rintro e w1 ⟨rfl, hb1⟩
  have HB1 := hide (HS0.out.below hb1).below_
  go_wp2_with fail
  go_ret2
  exact ⟨rfl, HB1.out⟩
set_option maxRecDepth 100000 in
set_option maxHeartbeats 4000000 in
theorem wkept_ok (gs : List (List Val)) (h3 : obs.map Ob.fields = gs) (hcp : Caps obs) (hO : ObsRd w (fun _ => True) AO nO obs) (hR : Rd w (fun _ => True) 2 AR nR (vals roots)) (hK : Rd w (fun _ => True) 1 AK nO (ints ks)) (hz : wkErr nO nR nO obs roots ks = 0) :
    Calls Try.prog 47 #[.agg #[.slice AO nO cO, .slice AR nR cR], .slice AK nO cK] w fun e w' => ∃ A m c p, e = .returned (.tuple #[.slice A m c, .int .i64 0]) ∧ m ≤ nO ∧ Kpt gs ks roots nO p ∧ Sep No w w' [rowI 3 1 A m c (ints (filt p nO))] := by
  have hn := (gok_of hO (wkErr_zero hz).1).nO_
  have hS0 := (Sep.nil No w).blkAt 25 #[.slice AO nO cO, .slice AR nR cR] rfl
  obtain ⟨a1, a2, a3, a4⟩ := hS0.rules 0 (g := w.heap.size) (t := 25) rfl
  have C1 := hide (wopen_ok _ AO AR AK nO cO nR cR cK obs roots ks gs h3 hcp (hO.below hS0.below_) (hR.below hS0.below_) (hK.below hS0.below_) hz)
  have HS0 := hide hS0
  clear hz hS0 a4 hO hR hK h3 hcp
  go_enter Try.func47, Try.ntmps47
  go_wp2_with fail
  refine C1.out.mono ?_
  rintro e w1 ⟨gb, Bt, b, rfl, hk, hbl, hP⟩
  have HK := hide hk
  have C2 := hide (wlist_any w1 Bt gb nO _ b rfl (hP.get 1 rfl) (hP.get 0 rfl) hn)
  have HB1 := hide (HS0.out.below hP.below_)
  clear hk hP HS0 C1
  go_wp2_with fail
  refine C2.out.mono ?_
  rintro e w2 ⟨A, m, c, rfl, hm, hP2⟩
  have HS2 := hide (sepNewR HB1.out hP2)
  clear hP2 HB1 C2
  go_wp2_with fail
  go_ret2
  exact ⟨A, m, c, bp b, rfl, hm, HK.out, HS2.out.sub (by simp)⟩
end

theorem row2 {F : Nat → Prop} {W w : World} {items : List Item} (h : Sep F W w items) (k : Nat) {g t : Nat} (hk : items[k]? = some (blkI g t #[])) : Sep F W w (items.set k (rowI t 2 (some ⟨g, 0, none⟩) 0 0 [])) :=
  h.step k hk (Chg.refl _ w) _ ⟨by simp, .inr ⟨g, 0, #[], rfl, Nat.zero_le _, h.get k hk, Nat.le_refl _, by simp only [maxLen]; omega, rfl, by simp⟩⟩ (fun g' hg => .inl (by
    have : g = g' := by simpa [rowI, Value.ownBlock] using hg
    exact this.symm))
theorem eqlNilV (w : World) : (binOp .eql 23 (.slice none 0 0) (.slice none 0 0)).run Try.prog w = .ok (.bool true) w := by kernel_rfl
theorem eqlSomeV (w : World) (ad : Addr) (n c : Nat) : (binOp .eql 23 (.slice (some ad) n c) (.slice none 0 0)).run Try.prog w = .ok (.bool false) w := by
  have h := run_equal_slice_nil (P := Try.prog) w 23 86 (some ad) n c Try.underlying23
  unfold binOp
  simp [h, go_sem]
theorem vals_one (l : List Val) : ∀ u ∈ vals l, u.oneCell' = true := fun u hu => by
  unfold vals at hu
  obtain ⟨v, _, hv⟩ := List.mem_flatMap.1 hu
  simp at hv
  rcases hv with rfl | rfl <;> rfl
set_option maxRecDepth 100000 in
set_option maxHeartbeats 1600000 in
theorem cloneV_any (w : World) (A : Option Addr) (n c : Nat) (xs : List Val) (hA : A = none → c = 0) (hn : n ≤ 1000) (hR : Rd w (fun _ => True) 2 A n (vals xs)) :
    Calls Try.prog 104 #[.slice A n c] w fun e w' => ∃ A' c', e = .returned (.slice A' n c') ∧ Sep No w w' [rowI 86 2 A' n c' (vals xs)] := by
  cases A with
  | none =>
    obtain rfl := hA rfl
    have hn0 : n = 0 := by
      rcases Nat.eq_zero_or_pos n with h | h
      · exact h
      · obtain ⟨ad, h1, _⟩ := hR.2 h; cases h1
    subst hn0
    have hx : vals xs = [] := List.eq_nil_of_length_eq_zero (by have := hR.1; simpa using this)
    rw [hx]
    have HS := hide ((Sep.nil No w).nilRow 86 2)
    clear hx hR
    have hnil := eqlNilV
    go_enter Try.func104, Try.ntmps104
    go_wp2_with fail
    go_ret
    exact ⟨none, 0, rfl, HS.out⟩
  | some ad =>
    have hS := row2 ((Sep.nil No w).blkAt 86 #[] rfl) 0 rfl
    have hR1 := hR.below hS.below_
    have hnil := eqlSomeV
    go_enter Try.func104, Try.ntmps104
    go_wp2_with (first
      | (at_builtin
         refine wpList_app rfl (.tmp 5) (.tmp 6) 23 rfl sVal hS 0 (n := 0) rfl rfl rfl hR1 (vals_one _) (by omega) ?_
         intro A4 c4 w4 hS4 hC4))
    go_ret
    rw [Nat.zero_add] at hS4
    exact ⟨A4, c4, by first | rfl | simp, hS4⟩
end Go.Proofs.Ytaajkldhnjoicaa
