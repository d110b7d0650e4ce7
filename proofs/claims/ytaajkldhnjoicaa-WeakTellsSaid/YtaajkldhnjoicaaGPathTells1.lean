/- Paths: first. Contracts of the library, laid by the shelf. Paths: path.Path. -/
import Derived.StillTailTactics
import Derived.Test.YtaajkldhnjoicaaGPathTells0
import Derived.Test.YtaajkldhnjoicaaGGraphTells7
import Derived.Shelf.Slices.Reverse
import Derived.Test.YtaajkldhnjoicaaProg
import Derived.Test.YtaajkldhnjoicaaGGraphTells8
set_option linter.unusedSimpArgs false
set_option linter.unusedVariables false
namespace Go.Proofs.Ytaajkldhnjoicaa
open Go.RowKit Go.Maps

theorem perm_pa {α : Type} (g m bm bl r : α) : [m, g, bm, bl, r].Perm [r, m, bm, bl, g] := by
  classical
  rw [List.perm_iff_count]
  intro x
  simp only [List.count_cons, List.count_nil]
  omega
theorem pTks_ok {n : Nat} {S : List Stp} (h : OrdOk n (S.map (·.1))) {vs : List Val} (hv : ValsOk n vs) (fr : Int) (base k : Nat) (hk : k ≤ vs.length) : OrdOk n ((pTks fr base vs S k).map (·.1)) := by
  rw [pTks_fst fr base vs S k hk]
  exact h.seenAll (fun v hv2 => hv v (List.mem_of_mem_take hv2))
theorem p_row {F : Nat → Prop} {W w : World} {items : List Item} (h : Sep F W w items) (k : Nat) {A : Option Addr} {n c : Nat} {S : List Stp} (hk : items[k]? = some (rowI 3 1 A n c (ints (S.map (·.1))))) : S.length = n := by
  have := (h.rd_ k hk).1; simpa using this

set_option maxRecDepth 100000 in
set_option maxHeartbeats 4000000 in
theorem first_any (w : World) (AO AR : Option Addr) (nO cO nR cR : Nat) (obs : List Ob) (roots : List Val) (hO : ObsRd w (fun _ => True) AO nO obs) (hR : Rd w (fun _ => True) 2 AR nR (vals roots)) (hG : GOk nO nR obs roots) (hwf : (∀ v ∈ roots, (Lit.int .i64 v.2).wf = true) ∧ ∀ o ∈ obs, ∀ v ∈ o.fields, (Lit.int .i64 v.2).wf = true) :
    Calls Try.prog 66 #[.agg #[.slice AO nO cO, .slice AR nR cR]] w fun e w' => ∃ b nn D, e = .returned (.map (some b)) ∧ PD (pAll (obs.map Ob.fields) roots) D ∧ Sep No w w' [mapP b nn D] := by
  have hmm := @run_makeMap Try.prog
  have hS0 := (Sep.nil No w).blkAt 25 #[.slice AO nO cO, .slice AR nR cR] rfl
  have hown := World.ownsMap_made (H := Unit) (w.alloc (.cells #[.slice AO nO cO, .slice AR nR cR] 25)) Try.prog 3 stepE
  have hS1 := hS0.consNew ((Below.refl _ _).alloc (Nat.le_refl _) (.map #[] 0)) (mapP (w.alloc (.cells #[.slice AO nO cO, .slice AR nR cR] 25)).heap.size 0 (.map [])) hown (fun g hg => by rw [show g = _ from hg]; exact Nat.le_refl _)
  rw [World.size_alloc] at hS1
  have hS2 := ((((hS1.blkAt 89 #[.map (some (w.heap.size + 1))] (g := w.heap.size + 2) (by simp)).blkAt 35 #[.slice none 0 0] (g := w.heap.size + 3) (by simp)).nilRow 3 1).perm (perm_pa _ _ _ _ _)).join (l := [_, _, _, _])
  obtain ⟨a1, a2, a3, a4⟩ := hS2.rules 1 (g := w.heap.size) (t := 25) rfl
  have HS2 := hide hS2
  have HRL := hide (show roots.length = nR by have := hR.1; rw [vals_length] at this; omega)
  have HOL := hide hO.len
  have HWF := hide hwf
  have h1 := hG.nO_
  have h2 := hG.nR_
  have HVR := hide hG.vr
  have HVG := hide hG.vg
  have HFS := hide hG.fs
  have HFL := hide hG.fl
  have HGL := hide hG.len
  have HE := hide (fun x => show pAll (obs.map Ob.fields) roots = x → pBfs (obs.map Ob.fields) (nO - 0) 0 (pTks (-1) 0 roots [] nR) = x by intro h; rw [← h]; unfold pAll; rw [HGL.out, HRL.out]; rfl)
  generalize hgs : obs.map Ob.fields = gs at *
  generalize pAll gs roots = T at HE ⊢
  have HT := hide (HE.out T rfl)
  have HGS := hide hgs
  clear hS0 hown hS1 hS2 hG hwf HE hgs
  go_enter Try.func66, Try.ntmps66
  go_wp2_with fail
  go_loopw [6, 7, 16] (fun _ _ i wr => ∃ (k nn : Nat) (D : DataW Unit) (A : Option Addr) (nl cl : Nat), k ≤ nR ∧ nn ≤ k ∧ i = .int .i64 k ∧ Hid (PD (pTks (-1) 0 roots [] k) D) ∧ Sep No w wr [allI (PaI (w.heap.size + 2) (w.heap.size + 3) (w.heap.size + 1) nn D A nl cl (pTks (-1) 0 roots [] k)), blkI w.heap.size 25 #[.slice AO nO cO, .slice AR nR cR]]) (fun _ _ i _ => nR - (intOf i).toNat)
  case atStart => exact ⟨0, 0, .map [], none, 0, 0, by omega, by omega, rfl, PD.nil, HS2.out⟩
  case round =>
    clear HS2 a1 a2 a3 a4 hmm
    obtain ⟨k, nn, D, A, nl, cl, hk, hnn, rfl, hPD, hS⟩ := hrel
    by_cases hlt : k < nR
    · have hkl : k < roots.length := by rw [HRL.out]; exact hlt
      obtain ⟨ad, hA, _, had, hc, hd⟩ := (hR.below hS.below_).atN hlt
      obtain ⟨v0, v1⟩ := vals_at roots k hkl
      have e0 := hc _ v0
      have e1 := hd 0 _ v1
      have hvw := HWF.out.1 _ (List.getElem_mem hkl)
      have HK := hide (pTks_succ (-1) 0 roots [] k)
      rw [show roots.getD k (false, 0) = roots[k] by rw [List.getD_eq_getElem?_getD, List.getElem?_eq_getElem hkl]; rfl, Nat.zero_add] at HK
      obtain ⟨v, hv⟩ : ∃ v, roots[k] = v := ⟨_, rfl⟩
      rw [hv] at e0 e1 hvw HK
      subst hA
      have hok := pTks_ok (S := []) (OrdOk.nil gs.length) HVR.out (-1) 0 k (by omega)
      have hnl := p_row hS.split 0 rfl
      have hol := hok.len
      rw [List.length_map, HGL.out] at hol
      have C := hide (fun o => ptake_any (wr.alloc o) _ _ _ _ D A nl cl _ v (-1) k k (by omega) ((hS.alloc o).get 0 rfl) hPD.out (by omega) (by omega) hvw)
      rw [← HK.out] at C
      clear hc hd v0 v1 hv hok hol
      obtain ⟨y, x⟩ := v
      dsimp only at e0 e1 hvw
      go_wp2_with fail
      refine (C.out _).mono ?_
      rintro e w3 ⟨⟨u, rfl⟩, nn', D', A', nl', cl', hn1, hn2, hpd, hP⟩
      have hS3 := (hS.alloc _).call 0 rfl hP
      go_wp2_with fail
      go_roundw
      case rel => exact ⟨k + 1, nn', D', A', nl', cl', by omega, by omega, by go_num, hpd, hS3⟩
      case measure => simp [intOf]; omega
    · obtain rfl : k = nR := by omega
      have hok := pTks_ok (S := []) (OrdOk.nil gs.length) HVR.out (-1) 0 k (by rw [HRL.out]; exact Nat.le_refl _)
      have HOK := hide hok
      generalize pTks (-1) 0 roots [] k = S0 at *
      have HS := hide hS
      clear hS hok
      go_wp2_with fail
      have HPD0 := hPD
      clear hPD
      go_loopw [8, 9, 10] (fun i _ _ wr => ∃ (j nn : Nat) (D : DataW Unit) (A : Option Addr) (nl cl : Nat) (S : List Stp), j ≤ S.length ∧ nn ≤ 8 + 4 * j ∧ i = .int .i64 j ∧ Hid (PD S D) ∧ Hid (OrdOk gs.length (S.map (·.1))) ∧ Hid (pBfs gs (nO - j) j S = T) ∧ Sep No w wr [allI (PaI (w.heap.size + 2) (w.heap.size + 3) (w.heap.size + 1) nn D A nl cl S), blkI w.heap.size 25 #[.slice AO nO cO, .slice AR k cR]]) (fun i _ _ _ => nO - (intOf i).toNat)
      case atStart => exact ⟨0, nn, D, A, nl, cl, S0, by omega, by omega, rfl, HPD0, HOK, HT, HS.out⟩
      case round =>
        clear HS HOK HT
        obtain ⟨j, nn, D, A, nl, cl, S, hj, hnn, rfl, hPD, hOK, hT, hS⟩ := hrel
        have hnl := p_row hS.split 0 rfl
        subst hnl
        have hol := hOK.out.len
        rw [List.length_map, HGL.out] at hol
        obtain ⟨l1, l2, l3, l4⟩ := hS.split.rules 3 (g := w.heap.size + 3) (t := 35) rfl
        have l5 : wr.cell? ⟨w.heap.size + 3, 0, none⟩ = some (.slice A S.length cl) := by rw [l1]; rfl
        obtain ⟨m1, m2, m3, m4⟩ := hS.split.rules 2 (g := w.heap.size + 2) (t := 89) rfl
        have m5 : wr.cell? ⟨w.heap.size + 2, 0, none⟩ = some (.map (some (w.heap.size + 1))) := by rw [m1]; rfl
        obtain ⟨g1, g2, g3, g4⟩ := hS.rules 1 (g := w.heap.size) (t := 25) rfl
        have g5 : wr.cell? ⟨w.heap.size, 0, none⟩ = some (.slice AO nO cO) := by rw [g1]; rfl
        by_cases hlt : j < S.length
        · have hrow : wr.ownsRow 0 3 1 (.slice A S.length cl) S.length (ints (S.map (·.1))) := hS.split.get 0 rfl
          obtain ⟨ga, hga⟩ := own_addr' hrow (by omega)
          have hxr := hOK.out.rng (pX S j) (List.mem_map.2 ⟨_, List.getElem_mem hlt, by rw [p_at hlt]⟩)
          have e0 : wr.cell? ⟨ga, j, none⟩ = some (.int .i64 (pX S j)) := by
            rw [hga] at hrow
            rw [hrow.cellAt j (by omega)]
            simp [ints, List.getElem?_eq_getElem hlt, p_at hlt]
          rw [HGL.out] at hxr
          obtain ⟨z, hz⟩ := int_nat hxr.1
          have hzn : z < nO := by omega
          have hzl : z < obs.length := by rw [HOL.out]; exact hzn
          have hO' := hO.below hS.below_
          obtain ⟨ad, hA, _, had, hc⟩ := hO'.row.at_ hzn
          have e1 := hc obs[z].val (by simp [List.getElem?_eq_getElem hzl])
          have hE := hO.each _ (List.getElem_mem hzl)
          have hfi : fieldsI gs (pX S j) = obs[z].fields := by
            unfold fieldsI
            rw [← HGS.out, List.getD_eq_getElem?_getD, List.getElem?_map, hz, show ((z : Int)).toNat = z from by omega, List.getElem?_eq_getElem hzl]
            rfl
          have hfn := hO'.flen (List.getElem_mem hzl)
          have hon := HFL.out _ (List.getElem_mem hzl)
          have hfw := HWF.out.2 _ (List.getElem_mem hzl)
          have hvo := fieldsI_ok HVG.out (pX S j)
          obtain ⟨o, ho⟩ : ∃ o, obs[z] = o := ⟨_, rfl⟩
          rw [ho] at e1 hE hfi hfn hon hfw
          rw [hfi] at hvo
          have HT2 := hide hT.out
          have HX := hide hz
          have HOKs := hOK
          rw [pBfs_step gs nO j S hlt (by omega), hfi, hfn] at HT2
          unfold Ob.val at e1
          have HS := hide hS
          have HVO := hide hvo
          have HFW := hide hfw
          have HFN := hide hfn
          rw [hz] at e0 HT2
          subst hA hga
          clear hT l1 m1 g1 hc hO' ho hfi hvo hrow hxr hfw hS hfn
          go_wp2_with fail
          go_quiet (fail)
          go_wp2_with fail
          go_loopw [9, 10, 43] (fun _ _ i wv => ∃ (f nn : Nat) (D : DataW Unit) (A : Option Addr) (nl cl : Nat), f ≤ o.n ∧ nn ≤ 8 + 4 * j + f ∧ i = .int .i64 f ∧ Hid (PD (pTks (z : Int) ((j + 1) * 8) o.fields S f) D) ∧ Sep No w wv [allI (PaI (w.heap.size + 2) (w.heap.size + 3) (w.heap.size + 1) nn D A nl cl (pTks (z : Int) ((j + 1) * 8) o.fields S f)), blkI w.heap.size 25 #[.slice (some ad) nO cO, .slice AR k cR]]) (fun _ _ i _ => o.n - (intOf i).toNat)
          case atStart => exact ⟨0, nn, D, some ⟨ga, 0, none⟩, S.length, cl, by omega, by omega, rfl, hPD, HS.out.drewN _⟩
          case round =>
            have HJ := hide (show nn ≤ 8 + 4 * j from hnn)
            clear HS hPD e0 e1 l5 m5 g5 l2 l3 l4 m2 m3 m4 g2 g3 g4 hnn
            obtain ⟨f, nn, D, A, nl, cl, hf, hnn, rfl, hPD, hS⟩ := hrel
            have hS' := hS.split
            have hnl := p_row hS' 0 rfl
            have hpre := pTks_pre (z : Int) ((j + 1) * 8) o.fields S f
            have hok := pTks_ok HOKs.out HVO.out (z : Int) ((j + 1) * 8) f (by rw [HFN.out]; exact hf)
            have hol2 := hok.len
            rw [List.length_map, HGL.out] at hol2
            have hjl : j < (pTks (z : Int) ((j + 1) * 8) o.fields S f).length := Nat.lt_of_lt_of_le hlt hpre.length_le
            have hrow : wr.ownsRow 0 3 1 (.slice A nl cl) nl (ints ((pTks (z : Int) ((j + 1) * 8) o.fields S f).map (·.1))) := hS'.get 0 rfl
            obtain ⟨ga, hga⟩ := own_addr' hrow (by omega)
            have e0 : wr.cell? ⟨ga, j, none⟩ = some (.int .i64 z) := by
              rw [hga] at hrow
              rw [hrow.cellAt j (by omega)]
              have h3 := (p_pre hpre hlt).1
              rw [HX.out] at h3
              simp [ints, List.getElem?_eq_getElem hjl, p_at hjl, h3]
            obtain ⟨l1, l2, l3, l4⟩ := hS'.rules 3 (g := w.heap.size + 3) (t := 35) rfl
            have l5 : wr.cell? ⟨w.heap.size + 3, 0, none⟩ = some (.slice A nl cl) := by rw [l1]; rfl
            by_cases hfl : f < o.n
            · have hkl : f < o.fields.length := by rw [HFN.out]; exact hfl
              obtain ⟨ao, hAo, _, hao, hc, hd⟩ := (hE.below hS.below_).atN hfl
              obtain ⟨v0, v1⟩ := vals_at o.fields f hkl
              have c0 := hc _ v0
              have c1 := hd 0 _ v1
              have hvw := HFW.out _ (List.getElem_mem hkl)
              have HK := hide (pTks_succ (z : Int) ((j + 1) * 8) o.fields S f)
              rw [show o.fields.getD f (false, 0) = o.fields[f] by rw [List.getD_eq_getElem?_getD, List.getElem?_eq_getElem hkl]; rfl] at HK
              obtain ⟨v, hv⟩ : ∃ v, o.fields[f] = v := ⟨_, rfl⟩
              rw [hv] at c0 c1 hvw HK
              have C := hide (fun n o' => ptake_any ((wr.alloc o').drewN n) _ _ _ _ D A nl cl _ v (z : Int) ((j + 1) * 8 + f) f (by omega) (((hS.alloc o').drewN n).get 0 rfl) hPD.out (by omega) (by omega) hvw)
              rw [← HK.out] at C
              have HS := hide hS
              have HAO := hide hAo
              obtain ⟨y, x⟩ := v
              dsimp only at c0 c1 hvw
              have hmx : Try.prog.follows .mixedOrders = true := by kernel_rfl
              rw [hAo]
              rw [hga] at l5
              clear hS hS' hrow l1 l4 hc hd v0 v1 hv hok hol2 hpre hE
              go_wp2_with fail
              have hS2 := HS.out.blkAt 86 #[.bool y, .int .i64 x] rfl
              have C2 := hide (fun n => C.out n (.cells #[.bool y, .int .i64 x] 86))
              have eq0 : (wr.alloc (.cells #[.bool y, .int .i64 x] 86)).cell? ⟨ga, j, none⟩ = some (.int .i64 z) := by
                have h7 : (wr.alloc (.cells #[.bool y, .int .i64 x] 86)).ownsRow 0 3 1 (.slice A nl cl) nl (ints ((pTks (z : Int) ((j + 1) * 8) o.fields S f).map (·.1))) := hS2.split.get 0 rfl
                have hlt2 : ga < wr.heap.size := HS.out.split.hi 0 rfl ga (by show (Value.slice A nl cl).ownBlock = some ga; rw [hga]; rfl)
                rw [World.cell?_of_block (a := ⟨ga, j, none⟩) (Below.heap_alloc wr _ ga hlt2)]
                exact e0
              obtain ⟨wq, hq⟩ : ∃ wq, wr.alloc (.cells #[.bool y, .int .i64 x] 86) = wq := ⟨_, rfl⟩
              rw [hq] at hS2 C2 eq0 ⊢
              obtain ⟨q1, q2, q3, q4⟩ := hS2.rules 2 (g := wr.heap.size) (t := 86) rfl
              have q5 : wq.cell? ⟨wr.heap.size, 0, none⟩ = some (.bool y) := by rw [q1]; rfl
              have q6 : wq.cell? ⟨wr.heap.size, 1, none⟩ = some (.int .i64 x) := by rw [q1]; rfl
              obtain ⟨r1, r2, r3, r4⟩ := hS2.split.rules 3 (g := w.heap.size + 3) (t := 35) rfl
              have r5 : wq.cell? ⟨w.heap.size + 3, 0, none⟩ = some (.slice (some ⟨ga, 0, none⟩) nl cl) := by rw [r1, ← hga]; rfl
              have HS2 := hide hS2
              clear q1 r1 hS2 hq C
              have hjn : j < nl := by omega
              go_still_tail 8, hmx
              go_wp2_with fail
              refine (C2.out 1).mono ?_
              rintro e w3 ⟨⟨u, rfl⟩, nn', D', A', nl', cl', hn1, hn2, hpd, hP⟩
              have hS3 := ((HS2.out.drewN 1).call 0 rfl hP).sub (List.take_sublist 2 _)
              have HPD2 := hide hpd
              clear hP hpd
              go_wp2_with fail
              go_roundw
              case rel => exact ⟨f + 1, nn', D', A', nl', cl', by omega, by omega, by go_num, HPD2.out, hS3⟩
              case measure => simp [intOf]; omega
            · obtain rfl : f = o.n := by omega
              have HPD2 := hPD
              have HS := hide hS
              have HOK2 := hide hok
              have hpl := hpre.length_le
              clear hS hS' hrow l1 l4 hPD hok e0 hpre
              go_wp2_with fail
              go_roundw
              case rel => exact ⟨j + 1, nn, D, A, nl, cl, pTks (z : Int) ((j + 1) * 8) o.fields S o.n, by omega, by omega, by go_num, HPD2, HOK2, HT2, HS.out⟩
              case measure => simp [intOf]; omega
        · obtain rfl : j = S.length := by omega
          have HTT := hide (show S = T by rw [← hT.out, pBfs_end gs _ _ S (by omega)])
          clear hT l1 m1 g1 g5
          go_wp2_with fail
          go_ret
          have hS9 := (hS.split.perm (List.Perm.swap _ _ _)).sub (List.take_sublist 1 _)
          exact ⟨_, nn, D, rfl, by rw [← HTT.out]; exact hPD.out, hS9⟩
end Go.Proofs.Ytaajkldhnjoicaa

namespace Go.Proofs.Ytaajkldhnjoicaa
open Go.Shelf
def shelf_lays112_ren : Go.Shelf.Ren := ⟨fun | 112 => 67 | n => n, fun | 28 => 35 | 3 => 3 | 4 => 4 | 0 => 0 | n => n, fun | n => n⟩
theorem shelf_lays112 : Go.Proofs.Lays.n112 Try.prog shelf_lays112_ren := {
  mixed := by kernel_rfl
  f112 := Try.func67.trans (congrArg some (by kernel_rfl))
  t0 := Try.underlying0
  a0 := Try.isAgg0
  z0 := Try.sizeOf0
  v0 := Try.zeroValue0
  t3 := Try.underlying3
  a3 := Try.isAgg3
  z3 := Try.sizeOf3
  v3 := Try.zeroValue3
  t4 := Try.underlying4
  a4 := Try.isAgg4
  z4 := Try.sizeOf4
  v4 := Try.zeroValue4
  t28 := Try.underlying35
  a28 := Try.isAgg35
  z28 := Try.sizeOf35
  v28 := Try.zeroValue35 }
open Go.RowKit Go.Lib Go.Sort in
theorem shelf_slices_Reverse_int_arr (blk off cap : Nat) (d : Array Int) (w : World) (hH : Holds encI w blk off d) (hsz : d.size ≤ 9223372036854775807) :
    Calls Try.prog 67 #[.slice (some ⟨blk, off, none⟩) d.size cap] w fun e w' => e = .returned (.tuple #[]) ∧ ∃ n, w' = putRow encI (Sort.ahead w n) blk off d.reverse := Any.slices_Reverse_int_arr shelf_lays112 blk off cap d w hH hsz
open Go.RowKit Go.Lib Go.Sort in
theorem shelf_slices_Reverse_int (blk off cap : Nat) (zs : List Int) (w : World) (hH : Holds (Value.int .i64) w blk off zs.toArray) (hsz : zs.length ≤ 9223372036854775807) :
    Calls Try.prog 67 #[.slice (some ⟨blk, off, none⟩) zs.length cap] w fun e w' => e = .returned (.tuple #[]) ∧ ∃ n, w' = putRow (Value.int .i64) (Sort.ahead w n) blk off zs.reverse.toArray := Any.slices_Reverse_int shelf_lays112 blk off cap zs w hH hsz
open Go.RowKit Go.Lib Go.Sort in
theorem shelf_slices_Reverse_int_empty (a : Option Addr) (cap : Nat) (w : World) :
    Calls Try.prog 67 #[.slice a 0 cap] w fun e w' => e = .returned (.tuple #[]) ∧ w' = w := Any.slices_Reverse_int_empty shelf_lays112 a cap w
end Go.Proofs.Ytaajkldhnjoicaa

namespace Go.Proofs.Ytaajkldhnjoicaa
open Go.RowKit Go.Maps

theorem results_tmp4 {fn : Func} {t u v x : Tmp} (h : fn.results = #[.tmp t, .tmp u, .tmp v, .tmp x]) (tmps : Array Value) (P : Program) (w : World) :
    (results fn tmps).run P w = .ok (.tuple #[tmps.getD t undef, tmps.getD u undef, tmps.getD v undef, tmps.getD x undef]) w := by
  simp [results, h]
macro "go_ret4" : tactic => `(tactic| ((try simp only [Exit.inBlock, Exit.then]); refine bodyPost_ret (results_tmp4 rfl _ _ _) rfl ?_))

theorem rev_any (w : World) (A : Option Addr) (n c : Nat) (l : List Int) (hs : (rowI 3 1 A n c (ints l)).P w) (hn : n ≤ 1000) :
    Calls Try.prog 67 #[.slice A n c] w fun e w' => (∃ v, e = .returned v) ∧ Sep (rowI 3 1 A n c (ints l)).fp w w' [rowI 3 1 A n c (ints l.reverse)] := by
  have hrow : w.ownsRow 0 3 1 (.slice A n c) n (ints l) := hs
  have hln : l.length = n := by have := hrow.1; simpa using this
  rcases hrow.2 with ⟨hv, h0⟩ | ⟨g, cap, cur, hv, _⟩
  · injection hv with e1 e2 e3
    subst e1; subst e2; subst e3
    have hl : l = [] := List.eq_nil_of_length_eq_zero hln
    subst hl
    refine (shelf_slices_Reverse_int_empty none 0 w).mono ?_
    rintro e w' ⟨rfl, rfl⟩
    exact ⟨⟨_, rfl⟩, Sep.start hs⟩
  · injection hv with e1 e2 e3
    subst e1
    have h := holds_row hs
    have hc := shelf_slices_Reverse_int g 0 c l w h.1 (by omega)
    rw [hln] at hc
    refine hc.mono ?_
    rintro e w' ⟨rfl, k, rfl⟩
    have h2 := row_put (k := k) (os := #[]) hs (d := l.reverse) (by simp)
    have h3 : Sort.grow (Sort.putRow (Value.int .i64) (Sort.ahead w k) g 0 l.reverse.toArray) #[] = Sort.putRow (Value.int .i64) (Sort.ahead w k) g 0 l.reverse.toArray := by unfold Sort.grow; rw [Array.append_empty]
    rw [h3] at h2
    exact ⟨⟨_, rfl⟩, h2⟩

def lenS : Value → Nat
  | .slice _ n _ => n
  | _ => 0
theorem PWay.inv {S : List Stp} {i r : Nat} {l : List Int} (h : PWay S i r l) : (pQ S i / 8 = 0 ∧ r = pQ S i ∧ l = []) ∨ ∃ p l', pQ S i / 8 = p + 1 ∧ PWay S p r l' ∧ l = l' ++ [((pQ S i % 8 : Nat) : Int)] := by
  cases h with
  | root _ h0 h1 => exact .inl ⟨h1, rfl, rfl⟩
  | step _ p _ l' h0 h1 h2 => exact .inr ⟨p, l', h1, h2, rfl⟩

theorem PWay.le {gs : List (List Val)} {vs : List Val} {S : List Stp} (hF : PFin gs vs S) {i r : Nat} {l : List Int} (h : PWay S i r l) : l.length ≤ i := by
  induction h with
  | root i _ _ => simp
  | step i p r l hi hp _ ih => have := hF.par i hi; simp; omega
theorem sepNewP {F : Nat → Prop} {W w w' : World} {items : List Item} (h : Sep F W w items) {i : Item} (h2 : Sep No w w' [i]) : Sep F W w' (items ++ [i]) :=
  h.snocNew h2.below_ i (h2.get 0 rfl) (fun g hg => (h2.lo 0 rfl g hg).resolve_left (fun h => h))

theorem wpList_lookupP {w : World} {ops : Array Oper} {rest : List Oper} {o : Oper} {a : Act} {Q : Exit → Act → World → Prop} (hg : o.guard = none) (m x : Operand) (hop : o.op = Op.lookup 89 m x false)
    {b n : Nat} {D : DataW Unit} (hown : w.ownsMap Try.prog 3 stepE b n D) (y p q : Int) (hm : a.eval m = .map (some b)) (hx : a.eval x = .int .i64 y) (hy : (Lit.int .i64 y).wf = true) (hz : D.atKey (.int .i64 y) (stepD 0 0) = stepD p q)
    (hK : wpList Try.prog ops Q rest (a.put o.dst (.agg #[.int .i64 p, .int .i64 q])) w) : wpList Try.prog ops Q (o :: rest) a w := by
  refine wpList_plain hg fun K' hK' => ?_
  obtain ⟨v, ps, hrun, hv⟩ := hown.lookup (int_keyed Try.underlying3) Try.underlying89 (zeroStep w) (stepE_mk 0 0) (keyOf_int_mk Try.underlying3 hy)
  rw [hz] at hv
  obtain rfl := stepE_inv hv
  unfold Oper.wp
  simp [execOp, hop, hm, hx, hrun, Result.andThen]
  exact hK' _ _ hK

set_option maxRecDepth 100000 in
set_option maxHeartbeats 4000000 in
theorem path_bad (w : World) (AO AR : Option Addr) (nO cO nR cR : Nat) (v : Int) (obs : List Ob) (roots : List Val) (hO : ObsRd w (fun _ => True) AO nO obs) (hR : Rd w (fun _ => True) 2 AR nR (vals roots)) (hz : gcheck nO nR obs roots ≠ 0) :
    Calls Try.prog 21 #[.agg #[.slice AO nO cO, .slice AR nR cR], .int .i64 v] w fun e w' => e = .returned (.tuple #[.int .i64 0, .slice none 0 0, .bool false, .int .i64 (gcheck nO nR obs roots)]) ∧ Below w.heap.size w w' := by
  have hB0 : Below w.heap.size w (w.alloc (.cells #[.slice AO nO cO, .slice AR nR cR] 25)) := (Below.refl _ w).alloc (Nat.le_refl _) _
  have C1 := hide (graphCheck_any _ AO AR nO cO nR cR obs roots (hO.below hB0) (hR.below hB0))
  obtain ⟨x, hx⟩ : ∃ x, gcheck nO nR obs roots = x := ⟨_, rfl⟩
  rw [hx] at C1 hz ⊢
  have y1 : (x != 0) = true := by rw [bne_iff_ne]; exact hz
  have HB0 := hide hB0
  obtain ⟨a1, a2, a3⟩ := (Blk.new w 25 #[.slice AO nO cO, .slice AR nR cR]).rules
  clear hz hx hB0
  go_enter Try.func21, Try.ntmps21
  go_wp2_with fail
  refine C1.out.mono ?_
  rintro e w1 ⟨rfl, hb1⟩
  go_wp2_with fail
  go_ret4
  exact ⟨rfl, HB0.out.trans (hb1.mono HB0.out.size)⟩

set_option maxRecDepth 100000 in
set_option maxHeartbeats 4000000 in
theorem path_arg (w : World) (AO AR : Option Addr) (nO cO nR cR : Nat) (v : Int) (obs : List Ob) (roots : List Val) (hO : ObsRd w (fun _ => True) AO nO obs) (hR : Rd w (fun _ => True) 2 AR nR (vals roots)) (hz : gcheck nO nR obs roots = 0) (hv : v < 0 ∨ (nO : Int) ≤ v) :
    Calls Try.prog 21 #[.agg #[.slice AO nO cO, .slice AR nR cR], .int .i64 v] w fun e w' => e = .returned (.tuple #[.int .i64 0, .slice none 0 0, .bool false, .int .i64 2]) ∧ Below w.heap.size w w' := by
  have hB0 : Below w.heap.size w (w.alloc (.cells #[.slice AO nO cO, .slice AR nR cR] 25)) := (Below.refl _ w).alloc (Nat.le_refl _) _
  have C1 := hide (graphCheck_any _ AO AR nO cO nR cR obs roots (hO.below hB0) (hR.below hB0))
  rw [hz] at C1
  have HB0 := hide hB0
  have BA := hide (Blk.new w 25 #[.slice AO nO cO, .slice AR nR cR])
  obtain ⟨a1, a2, a3⟩ := BA.out.rules
  clear hz hB0
  rcases (show v < 0 ∨ (¬ v < 0 ∧ (nO : Int) ≤ v) by omega) with h1 | ⟨h1, h2⟩
  all_goals
    clear hv
    go_enter Try.func21, Try.ntmps21
    go_wp2_with fail
    refine C1.out.mono ?_
    rintro e w1 ⟨rfl, hb1⟩
    clear a1 a2 a3
    obtain ⟨a1, a2, a3⟩ := (BA.out.below_ hb1).rules
    go_wp2_with fail
    go_ret4
    exact ⟨rfl, HB0.out.trans (hb1.mono HB0.out.size)⟩

set_option maxRecDepth 100000 in
set_option maxHeartbeats 4000000 in
theorem path_none (w : World) (AO AR : Option Addr) (nO cO nR cR : Nat) (v : Int) (obs : List Ob) (roots : List Val) (hO : ObsRd w (fun _ => True) AO nO obs) (hR : Rd w (fun _ => True) 2 AR nR (vals roots)) (hz : gcheck nO nR obs roots = 0) (hwf : (∀ v ∈ roots, (Lit.int .i64 v.2).wf = true) ∧ ∀ o ∈ obs, ∀ v ∈ o.fields, (Lit.int .i64 v.2).wf = true) (h0 : 0 ≤ v) (h1 : v < nO)
    (hno : v ∉ (pAll (obs.map Ob.fields) roots).map (·.1)) :
    Calls Try.prog 21 #[.agg #[.slice AO nO cO, .slice AR nR cR], .int .i64 v] w fun e w' => e = .returned (.tuple #[.int .i64 0, .slice none 0 0, .bool false, .int .i64 0]) ∧ Below w.heap.size w w' := by
  have hB0 : Below w.heap.size w (w.alloc (.cells #[.slice AO nO cO, .slice AR nR cR] 25)) := (Below.refl _ w).alloc (Nat.le_refl _) _
  have C1 := hide (graphCheck_any _ AO AR nO cO nR cR obs roots (hO.below hB0) (hR.below hB0))
  have hG := gok_of hO hz
  have hnO := hG.nO_
  have C2 := hide (fun w' (hb : Below w.heap.size w w') => first_any w' AO AR nO cO nR cR obs roots (hO.below hb) (hR.below hb) hG hwf)
  rw [hz] at C1
  generalize pAll (obs.map Ob.fields) roots = T at *
  have HB0 := hide hB0
  have HNO := hide hno
  have BA := hide (Blk.new w 25 #[.slice AO nO cO, .slice AR nR cR])
  obtain ⟨a1, a2, a3⟩ := BA.out.rules
  have hvw : (Lit.int .i64 v).wf = true := WalkArith.wf_i64 (by omega)
  clear hz hB0 hG hwf hno
  go_enter Try.func21, Try.ntmps21
  go_wp2_with fail
  refine C1.out.mono ?_
  rintro e w1 ⟨rfl, hb1⟩
  have HB1 := hide (HB0.out.trans (hb1.mono HB0.out.size))
  have BA1 := hide (BA.out.below_ hb1)
  clear a1 a2 a3 hb1 HB0 BA C1
  obtain ⟨a1, a2, a3⟩ := BA1.out.rules
  go_wp2_with fail
  refine (C2.out _ HB1.out).mono ?_
  rintro e w2 ⟨b, nn, D, rfl, hpd, hP⟩
  have HB2 := hide (HB1.out.trans (hP.below_.mono HB1.out.size))
  have hown : w2.ownsMap Try.prog 3 stepE b nn D := hP.get 0 rfl
  have hhas := hpd.has v
  rw [decide_eq_false HNO.out] at hhas
  clear a1 a2 a3 hP hpd C2 HB1 BA1
  go_wp2_with (first
    | (at_lookup
       refine wpList_lookup_own_ok _ rfl _ _ 89 rfl 3 92 (int_keyed Try.underlying3) Try.underlying89 stepE (zeroStep _) (stepD 0 0) [] (stepE_mk 0 0) b nn D rfl hown _ _ rfl (keyOf_int_mk Try.underlying3 hvw) ?_
       intro v ps hv
       rw [hhas]
       rw [atKey_of_not_has hhas] at hv
       obtain rfl := stepE_inv hv
       clear hv))
  go_ret4
  exact ⟨rfl, HB2.out.alloc HB2.out.size _⟩

set_option maxRecDepth 100000 in
set_option maxHeartbeats 4000000 in
theorem path_ok (w : World) (AO AR : Option Addr) (nO cO nR cR : Nat) (v : Int) (obs : List Ob) (roots : List Val) (hO : ObsRd w (fun _ => True) AO nO obs) (hR : Rd w (fun _ => True) 2 AR nR (vals roots)) (hz : gcheck nO nR obs roots = 0) (hwf : (∀ v ∈ roots, (Lit.int .i64 v.2).wf = true) ∧ ∀ o ∈ obs, ∀ v ∈ o.fields, (Lit.int .i64 v.2).wf = true) (h0 : 0 ≤ v) (h1 : v < nO)
    (T : List Stp) (hT : pAll (obs.map Ob.fields) roots = T) (hF : PFin (obs.map Ob.fields) roots T) (i r : Nat) (l : List Int) (hi : i < T.length) (hiv : pX T i = v) (hw : PWay T i r l) :
    Calls Try.prog 21 #[.agg #[.slice AO nO cO, .slice AR nR cR], .int .i64 v] w fun e w' => ∃ A c, e = .returned (.tuple #[.int .i64 r, .slice A l.length c, .bool true, .int .i64 0]) ∧ Sep No w w' [rowI 3 1 A l.length c (ints l)] := by
  have hB0 : Below w.heap.size w (w.alloc (.cells #[.slice AO nO cO, .slice AR nR cR] 25)) := (Below.refl _ w).alloc (Nat.le_refl _) _
  have C1 := hide (graphCheck_any _ AO AR nO cO nR cR obs roots (hO.below hB0) (hR.below hB0))
  have hG := gok_of hO hz
  have hnO := hG.nO_
  have C2 := hide (fun w' (hb : Below w.heap.size w w') => first_any w' AO AR nO cO nR cR obs roots (hO.below hb) (hR.below hb) hG hwf)
  rw [hT] at C2
  rw [hz] at C1
  have HTN := hide (show T.length ≤ 24 by have := hF.ok.len; rw [List.length_map] at this; have := hG.len; omega)
  have HRG := hide (fun (x : Int) (hx : x ∈ T.map (·.1)) => show 0 ≤ x ∧ x < 24 by have := hF.ok.rng x hx; have := hG.len; omega)
  have HF := hide hF
  have hlen : l.length ≤ 24 := by have := hw.le hF; have := HTN.out; omega
  have HW := hide hw
  have HIV := hide hiv
  have HB0 := hide hB0
  have BA := hide (Blk.new w 25 #[.slice AO nO cO, .slice AR nR cR])
  obtain ⟨a1, a2, a3⟩ := BA.out.rules
  have hvw : (Lit.int .i64 v).wf = true := WalkArith.wf_i64 (by omega)
  clear hz hB0 hG hwf hF hw hT hiv
  go_enter Try.func21, Try.ntmps21
  go_wp2_with fail
  refine C1.out.mono ?_
  rintro e w1 ⟨rfl, hb1⟩
  have HB1 := hide (HB0.out.trans (hb1.mono HB0.out.size))
  have BA1 := hide (BA.out.below_ hb1)
  clear a1 a2 a3 hb1 HB0 BA C1
  obtain ⟨a1, a2, a3⟩ := BA1.out.rules
  go_wp2_with fail
  refine (C2.out _ HB1.out).mono ?_
  rintro e w2 ⟨b, nn, D, rfl, hpd, hP⟩
  have hown : w2.ownsMap Try.prog 3 stepE b nn D := hP.get 0 rfl
  have hhas := hpd.has v
  rw [decide_eq_true (by rw [← HIV.out]; exact List.mem_map.2 ⟨_, List.getElem_mem hi, by rw [p_at hi]⟩)] at hhas
  have hat := hpd.at_ i hi
  rw [HIV.out] at hat
  have HS2 := hide (sepNewP ((Sep.nil No w).below HB1.out) hP)
  have HPD := hide hpd
  clear a1 a2 a3 hP hpd C2 HB1 BA1
  go_wp2_with (first
    | (at_lookup
       refine wpList_lookup_own_ok _ rfl _ _ 89 rfl 3 92 (int_keyed Try.underlying3) Try.underlying89 stepE (zeroStep _) (stepD 0 0) [] (stepE_mk 0 0) b nn D rfl hown _ _ rfl (keyOf_int_mk Try.underlying3 hvw) ?_
       intro v' ps hv'
       rw [hhas]
       rw [hat] at hv'
       obtain rfl := stepE_inv hv'
       clear hv'))
  have HS3 := hide ((HS2.out.blkAt 92 #[.int .i64 (pF T i), .int .i64 ((pQ T i % 8 : Nat) : Int)] rfl).nilRow0 3 1)
  clear HS2 hat hhas hown
  go_loopw [12] (fun s12 wr => ∃ (j : Nat) (A : Option Addr) (n c : Nat) (l1 l2 : List Int), s12 = .slice A n c ∧ j < T.length ∧ n + l1.length = l.length ∧ Hid (PWay T j r l1) ∧ Hid (l = l1 ++ l2.reverse) ∧ Sep No w wr [rowI 3 1 A n c (ints l2), mapP b nn D, blkI w2.heap.size 92 #[.int .i64 (pF T j), .int .i64 ((pQ T j % 8 : Nat) : Int)]]) (fun s _ => l.length - lenS s)
  case atStart => exact ⟨i, none, 0, 0, l, [], rfl, hi, by simp, HW, by simp [Hid], HS3.out⟩
  case round =>
    clear HS3 HW
    obtain ⟨j, A, n, c, l1, l2, rfl, hj, hn, hw, hl, hS⟩ := hrel
    obtain ⟨b1, b2, b3, b4⟩ := hS.rules 2 (g := w2.heap.size) (t := 92) rfl
    have b5 : wr.cell? ⟨w2.heap.size, 0, none⟩ = some (.int .i64 (pF T j)) := by rw [b1]; rfl
    have b6 : wr.cell? ⟨w2.heap.size, 1, none⟩ = some (.int .i64 ((pQ T j % 8 : Nat) : Int)) := by rw [b1]; rfl
    have b7 := b2 0
    have b8 := b2 1
    rcases hw.out.inv with ⟨q1, q2, q3⟩ | ⟨p, l', q1, q2, q3⟩
    · obtain ⟨r1, r2, r3⟩ := HF.out.rt j hj q1
      rw [r1] at b5
      subst q3
      have hl2 := hl.out
      rw [List.nil_append] at hl2
      have hn2 : n = l.length := by simpa using hn
      subst hn2
      have C := hide (rev_any wr A l.length c l2 (hS.get 0 rfl) (by omega))
      rw [← hl2] at C
      have HS := hide hS
      have HQ := hide (show ((pQ T j % 8 : Nat) : Int) = (r : Int) by omega)
      rw [HQ.out] at b6
      clear b1 b2 b4 b7 b8 hS hl hl2 hw r1 r2 r3 q1 q2
      go_wp2_with fail
      refine C.out.mono ?_
      rintro e w3 ⟨⟨u, rfl⟩, hP⟩
      have hS3 := HS.out.call 0 rfl hP
      obtain ⟨c1, c2, c3, c4⟩ := hS3.rules 2 (g := w2.heap.size) (t := 92) rfl
      have c6 : w3.cell? ⟨w2.heap.size, 1, none⟩ = some (.int .i64 r) := by rw [c1, ← HQ.out]; rfl
      have hS4 := hS3.sub (List.take_sublist 1 _)
      clear c1 c4 hP
      go_wp2_with fail
      go_ret4
      exact ⟨A, c, rfl, hS4⟩
    · have hpj : p < T.length := by have := HF.out.par j hj; omega
      obtain ⟨r1, r2, r3⟩ := HF.out.fd j hj p q1
      have hx := HRG.out (pX T p) (List.mem_map.2 ⟨_, List.getElem_mem hpj, by rw [p_at hpj]⟩)
      rw [r1] at b5 hS
      have hat := HPD.out.at_ p hpj (stepD 0 0)
      have hown : wr.ownsMap Try.prog 3 stepE b nn D := hS.get 1 rfl
      obtain ⟨x, hx2⟩ : ∃ x, pX T p = x := ⟨_, rfl⟩
      rw [hx2] at b5 hat hx hS
      obtain ⟨x0, x1⟩ := hx
      have hxw : (Lit.int .i64 x).wf = true := WalkArith.wf_i64 (by omega)
      have HL := hide (show l = l' ++ (l2 ++ [((pQ T j % 8 : Nat) : Int)]).reverse by rw [hl.out, q3]; simp)
      have HPW := hide q2
      have hl1 : l1.length = l'.length + 1 := by rw [q3]; simp
      have HS := hide hS
      obtain ⟨q, hq⟩ : ∃ q, ((pQ T j % 8 : Nat) : Int) = q := ⟨_, rfl⟩
      rw [hq] at HS HL b6
      clear b1 b2 b4 hS hl hw r1 r2 r3 q1 q2 q3 hx2 hq
      go_wp2_with (first
        | (at_builtin
           refine wpList_app1 (cs := #[.int .i64 q]) rfl (.tmp 40) (.tmp 43) 35 rfl sInt HS.out 0 (n := n) rfl rfl rfl (by simp) rfl rfl (by omega) ?_
           intro A4 c4 w4 hS4 hC4
           obtain ⟨x1, x2, x3, x4⟩ := hS4.rules 2 (g := w2.heap.size) (t := 92) rfl
           (have x5 : w4.cell? ⟨w2.heap.size, 0, none⟩ = some (.int .i64 x) := by rw [x1]; rfl)
           (have x6 : w4.cell? ⟨w2.heap.size, 1, none⟩ = some (.int .i64 q) := by rw [x1]; rfl)
           have x7 := x2 0
           have x8 := x2 1
           (have hown4 : w4.ownsMap Try.prog 3 stepE b nn D := hS4.get 1 rfl)
           clear x1 x2 x4)
        | (at_lookup
           refine wpList_lookupP rfl _ _ rfl hown4 _ _ _ rfl rfl hxw hat ?_))
      go_roundw
      case rel =>
        have hS5 := ((hS4.set_ 2 (g := w2.heap.size) (t := 92) rfl 0 (.int .i64 (pF T p))).set_ 2 (g := w2.heap.size) (t := 92) rfl 1 (.int .i64 ((pQ T p % 8 : Nat) : Int)))
        refine ⟨p, A4, n + 1, c4, l', l2 ++ [q], rfl, hpj, by omega, HPW, HL, ?_⟩
        rw [show ints (l2 ++ [q]) = ints l2 ++ [.int .i64 q] by simp]
        exact hS5
      case measure => simp [lenS]; omega
end Go.Proofs.Ytaajkldhnjoicaa
